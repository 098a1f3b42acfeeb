/-
  The law StackCalls holds: its function returns true, whatever the arguments and the world. No conditions.
-/
import Derived.Test.YthpnhdopheofcaaRows
import Derived.WalkKit
import Derived.ProofKit
import Derived.OpenShut
import Derived.ShutString
import Derived.ChangeOld
import Derived.Below
import Derived.Test.YthpnhdopheofcaaSk
import Derived.Test.YthpnhdopheofcaaFns
set_option linter.unusedSimpArgs false
set_option linter.unusedVariables false
namespace Go.Proofs.Ythpnhdopheofcaa.stackCalls
open Go.ChangeShapes Go.WideShapes Go.ChangeAt Go.RowKit
set_option linter.unusedVariables false

theorem own : ownKnob Try.prog.godebug = none := by kernel_rfl
theorem laidOut : laidOutB Try.prog = true := by kernel_rfl

/-- The contract of the law's function, at what came in. -/
theorem walk (v0 : Value) (sv : Dx.AV) (len : Nat) (xs : List (List Dx.AV)) (a1 : Int) (a2 : Int) (w : World) (h : Dx.ArgSl [.i .i64] w v0 sv len xs) (w1 : (Lit.int .u8 a1).wf = true) (w2 : (Lit.int .i64 a2).wf = true) :
    Calls Try.prog 4 #[v0, .int .u8 a1, .int .i64 a2] w fun e w' => e = .returned (.bool true) ∧ Below w.heap.size w w' := by
  obtain ⟨G, ρ, hs, hro, hrel, hx⟩ := Dx.arg_rel h
  exact Dx.open_calls table («as» := .cons sv (.cons (.int 4 a1) (.cons (.int 3 a2) (.nil)))) hs hro (calls_arg ⟨(by kernel_rfl : (fun f => tree.get (Dx.key f)) 15 = some cf15),(by kernel_rfl : (fun f => tree.get (Dx.key f)) 17 = some cf17),(by kernel_rfl : (fun f => tree.get (Dx.key f)) 18 = some cf18),(by kernel_rfl : (fun f => tree.get (Dx.key f)) 19 = some cf19),(by kernel_rfl : (fun f => tree.get (Dx.key f)) 20 = some cf20),(by kernel_rfl : (fun f => tree.get (Dx.key f)) 24 = some cf24),(by kernel_rfl : (fun f => tree.get (Dx.key f)) 26 = some cf26),(by kernel_rfl : (fun f => tree.get (Dx.key f)) 28 = some cf28),(by kernel_rfl : (fun f => tree.get (Dx.key f)) 29 = some cf29),(by kernel_rfl : (fun f => tree.get (Dx.key f)) 31 = some cf31),(by kernel_rfl : (fun f => tree.get (Dx.key f)) 40 = some cf40),(by kernel_rfl : (fun f => tree.get (Dx.key f)) 48 = some cf48),(by kernel_rfl : (fun f => tree.get (Dx.key f)) 78 = some cf78),(by kernel_rfl : (fun f => tree.get (Dx.key f)) 84 = some cf84),(by kernel_rfl : (fun f => tree.get (Dx.key f)) 99 = some cf99),(by kernel_rfl : (fun f => tree.get (Dx.key f)) 130 = some cf130),(by kernel_rfl : (fun f => tree.get (Dx.key f)) 21 = some cf21),(by kernel_rfl : (fun f => tree.get (Dx.key f)) 22 = some cf22),(by kernel_rfl : (fun f => tree.get (Dx.key f)) 23 = some cf23),(by kernel_rfl : (fun f => tree.get (Dx.key f)) 25 = some cf25),(by kernel_rfl : (fun f => tree.get (Dx.key f)) 37 = some cf37),(by kernel_rfl : (fun f => tree.get (Dx.key f)) 38 = some cf38),(by kernel_rfl : (fun f => tree.get (Dx.key f)) 67 = some cf67),(by kernel_rfl : (fun f => tree.get (Dx.key f)) 68 = some cf68),(by kernel_rfl : (fun f => tree.get (Dx.key f)) 69 = some cf69),(by kernel_rfl : (fun f => tree.get (Dx.key f)) 70 = some cf70),(by kernel_rfl : (fun f => tree.get (Dx.key f)) 71 = some cf71),(by kernel_rfl : (fun f => tree.get (Dx.key f)) 72 = some cf72),(by kernel_rfl : (fun f => tree.get (Dx.key f)) 73 = some cf73),(by kernel_rfl : (fun f => tree.get (Dx.key f)) 74 = some cf74),(by kernel_rfl : (fun f => tree.get (Dx.key f)) 75 = some cf75),(by kernel_rfl : (fun f => tree.get (Dx.key f)) 76 = some cf76),(by kernel_rfl : (fun f => tree.get (Dx.key f)) 77 = some cf77),(by kernel_rfl : (fun f => tree.get (Dx.key f)) 80 = some cf80),(by kernel_rfl : (fun f => tree.get (Dx.key f)) 81 = some cf81),(by kernel_rfl : (fun f => tree.get (Dx.key f)) 83 = some cf83),(by kernel_rfl : (fun f => tree.get (Dx.key f)) 85 = some cf85),(by kernel_rfl : (fun f => tree.get (Dx.key f)) 115 = some cf115),(by kernel_rfl : (fun f => tree.get (Dx.key f)) 116 = some cf116),(by kernel_rfl : (fun f => tree.get (Dx.key f)) 117 = some cf117),(by kernel_rfl : (fun f => tree.get (Dx.key f)) 120 = some cf120),(by kernel_rfl : (fun f => tree.get (Dx.key f)) 143 = some cf143)⟩ (by kernel_rfl : (fun f => tree.get (Dx.key f)) 4 = some cf4) (by kernel_rfl : (fun f => tree.get (Dx.key f)) 13 = some kf13) rfl (by kernel_rfl : (fun f => tree.get (Dx.key f)) 14 = some cf14) (by kernel_rfl : (fun f => tree.get (Dx.key f)) 16 = some cf16) (by kernel_rfl : (fun f => tree.get (Dx.key f)) 27 = some cf27) (by kernel_rfl : (fun f => tree.get (Dx.key f)) 30 = some cf30) h w1) hrel (⟨_, _, rfl, hx, ⟨_, _, rfl, ⟨by decide, rfl⟩, ⟨_, _, rfl, ⟨by decide, rfl⟩, rfl⟩⟩⟩) rfl

set_option maxRecDepth 100000 in
theorem lifted (os : Os) (started : os.Started) (H : Type) (enc : TypeId × Value → H) :
    ReturnsInHanded {} Try.checked os 4 .any (Rows.stackCallsSpec.pre6 enc Try.prog Try.f4 Rows.stackCallsRow.domain false) (Rows.stackCallsSpec.post enc Try.prog Try.f4 false true false false) := by
  refine returnsInHanded_of_change (C := Try.checked) own started (by kernel_rfl) Try.func4
    (ChangeSpec.witness6 (enc := enc) (C := Try.checked) false ⟨#[], #[.slice none 0 0, .int .u8 0, .int .i64 0], []⟩ 8 (by kernel_rfl) (by kernel_rfl) (by kernel_rfl) (by kernel_rfl)) ?_
  intro W base args ds gs before hval0 hW hcnd _
  have hval : ∀ (j : Nat) t v, Try.f4.params[j]? = some t → args[j]? = some v → Value.okWide Try.prog W .any base t v := hval0
  have hW' := hW
  obtain ⟨p, q, hA0, hV, rfl, hfz, hnd⟩ := hW
  have hA : DataW.TrodAll enc Try.prog W 0 (fun _ => true) true Try.f4.params.toList args.toList ds p := hA0
  rw [Try.params4] at hA hval
  obtain ⟨v0, vs0, d0, ds0, p0, q0, hargs, rfl, rfl, h0, r0⟩ := trodAll_cons hA
  obtain ⟨v1, vs1, d1, ds1, p1, q1, rfl, rfl, rfl, h1, r1⟩ := trodAll_cons r0
  obtain ⟨v2, vs2, d2, ds2, p2, q2, rfl, rfl, rfl, h2, r2⟩ := trodAll_cons r1
  obtain ⟨rfl, rfl, rfl⟩ := trodAll_nil r2
  obtain rfl : args = #[v0, v1, v2] := by cases args; simp_all
  obtain ⟨rfl, rfl⟩ := trodVars_none hV
  have k0 := h0
  have lt0 : ∀ x ∈ p0, x.block < W.heap.size := by obtain ⟨m, hm⟩ := k0; exact DataW.trod_lt m _ _ _ hm
  obtain ⟨sv, len, xs, h⟩ := Dx.slice_arg (ks := [.i .i64]) Try.underlying22 (by kernel_rfl) (by kernel_rfl) (by decide) (hval 0 22 v0 rfl rfl) h0
  obtain ⟨a1, rfl, rfl, rfl, w1⟩ := open_int Try.underlying5 (hval 1 5 v1 rfl rfl) h1
  obtain ⟨a2, rfl, rfl, rfl, w2⟩ := open_int Try.underlying2 (hval 2 2 v2 rfl rfl) h2
  clear hA0 hval0
  refine (walk v0 sv len xs a1 a2 W h w1 w2).mono fun e W' ⟨he, bel⟩ => ?_
  subst he
  exact ⟨_, rfl, _, _, _, [], _, [], hW', trodAll_mk1 (shut_bool Try.underlying4 _), (trodAll_cons_mk (Below.trod laidOut (by kernel_rfl) (of_decide_eq_true (by kernel_rfl)) k0 bel lt0) (trodAll_cons_mk (shut_int Try.underlying5 w1) (trodAll_cons_mk (shut_int Try.underlying2 w2) trodAll_mk0))), rfl, bel.frame _, fun h => by cases h⟩

theorem over : Rows.stackCallsRow.holds Try.pinned (OpenSpec.ofChange Rows.stackCallsSpec) :=
  OpenClaim.holds_of_wide 4 Try.f4 rfl rfl rfl rfl rfl rfl rfl ⟨rfl, rfl, rfl, rfl, rfl⟩ rfl rfl rfl rfl rfl (by kernel_rfl) Try.func4 (by kernel_rfl)
    (of_decide_eq_true (by kernel_rfl)) (by unfold Func.isWrapper; first | (rw [if_pos (by decide +kernel)]; kernel_rfl) | (rw [if_neg (by decide +kernel)]; exact ⟨rfl, rfl⟩))
    (fun os started H enc _ => lifted os started H enc)

/-- The statement. -/
theorem proved : Rows.StackCallsSaid := over
#print axioms proved
end Go.Proofs.Ythpnhdopheofcaa.stackCalls
