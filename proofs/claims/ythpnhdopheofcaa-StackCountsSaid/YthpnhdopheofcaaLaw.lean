/-
  The law StackCounts holds: its function returns true, whatever the arguments and the world. No conditions.
-/
import Derived.Test.YthpnhdopheofcaaRows
import Derived.WalkKit
import Derived.ProofKit
import Derived.OpenShut
import Derived.ShutString
import Derived.ChangeOld
import Derived.Below
import Derived.Test.YthpnhdopheofcaaSy
import Derived.Test.YthpnhdopheofcaaFns
set_option linter.unusedSimpArgs false
set_option linter.unusedVariables false
namespace Go.Proofs.Ythpnhdopheofcaa.stackCounts
open Go.ChangeShapes Go.WideShapes Go.ChangeAt Go.RowKit
set_option linter.unusedVariables false
theorem own : ownKnob Try.prog.godebug = none := by kernel_rfl
theorem laidOut : laidOutB Try.prog = true := by kernel_rfl
theorem walk (v0 : Value) (sv : Dx.AV) (len : Nat) (xs : List (List Dx.AV)) (w : World) (h : Dx.ArgSl [.i .u8, .i .u8, .i .u8] w v0 sv len xs) :
    Calls Try.prog 9 #[v0] w fun e w' => e = .returned (.bool true) ∧ Below w.heap.size w w' := by
  obtain ⟨G, ρ, hs, hro, hrel, hx⟩ := Dx.arg_rel h
  exact Dx.open_calls table («as» := .cons sv (.nil)) hs hro (counts_arg ⟨(by kernel_rfl : (fun f => tree.get (Dx.key f)) 15 = some cf15), (by kernel_rfl : (fun f => tree.get (Dx.key f)) 17 = some cf17), (by kernel_rfl : (fun f => tree.get (Dx.key f)) 18 = some cf18), (by kernel_rfl : (fun f => tree.get (Dx.key f)) 19 = some cf19), (by kernel_rfl : (fun f => tree.get (Dx.key f)) 20 = some cf20), (by kernel_rfl : (fun f => tree.get (Dx.key f)) 24 = some cf24), (by kernel_rfl : (fun f => tree.get (Dx.key f)) 26 = some cf26), (by kernel_rfl : (fun f => tree.get (Dx.key f)) 28 = some cf28), (by kernel_rfl : (fun f => tree.get (Dx.key f)) 29 = some cf29), (by kernel_rfl : (fun f => tree.get (Dx.key f)) 31 = some cf31), (by kernel_rfl : (fun f => tree.get (Dx.key f)) 40 = some cf40), (by kernel_rfl : (fun f => tree.get (Dx.key f)) 48 = some cf48), (by kernel_rfl : (fun f => tree.get (Dx.key f)) 78 = some cf78), (by kernel_rfl : (fun f => tree.get (Dx.key f)) 84 = some cf84), (by kernel_rfl : (fun f => tree.get (Dx.key f)) 99 = some cf99), (by kernel_rfl : (fun f => tree.get (Dx.key f)) 130 = some cf130), (by kernel_rfl : (fun f => tree.get (Dx.key f)) 21 = some cf21), (by kernel_rfl : (fun f => tree.get (Dx.key f)) 22 = some cf22), (by kernel_rfl : (fun f => tree.get (Dx.key f)) 23 = some cf23), (by kernel_rfl : (fun f => tree.get (Dx.key f)) 25 = some cf25), (by kernel_rfl : (fun f => tree.get (Dx.key f)) 37 = some cf37), (by kernel_rfl : (fun f => tree.get (Dx.key f)) 38 = some cf38), (by kernel_rfl : (fun f => tree.get (Dx.key f)) 67 = some cf67), (by kernel_rfl : (fun f => tree.get (Dx.key f)) 68 = some cf68), (by kernel_rfl : (fun f => tree.get (Dx.key f)) 69 = some cf69), (by kernel_rfl : (fun f => tree.get (Dx.key f)) 70 = some cf70), (by kernel_rfl : (fun f => tree.get (Dx.key f)) 71 = some cf71), (by kernel_rfl : (fun f => tree.get (Dx.key f)) 72 = some cf72), (by kernel_rfl : (fun f => tree.get (Dx.key f)) 73 = some cf73), (by kernel_rfl : (fun f => tree.get (Dx.key f)) 74 = some cf74), (by kernel_rfl : (fun f => tree.get (Dx.key f)) 75 = some cf75), (by kernel_rfl : (fun f => tree.get (Dx.key f)) 76 = some cf76), (by kernel_rfl : (fun f => tree.get (Dx.key f)) 77 = some cf77), (by kernel_rfl : (fun f => tree.get (Dx.key f)) 80 = some cf80), (by kernel_rfl : (fun f => tree.get (Dx.key f)) 81 = some cf81), (by kernel_rfl : (fun f => tree.get (Dx.key f)) 83 = some cf83), (by kernel_rfl : (fun f => tree.get (Dx.key f)) 85 = some cf85), (by kernel_rfl : (fun f => tree.get (Dx.key f)) 115 = some cf115), (by kernel_rfl : (fun f => tree.get (Dx.key f)) 116 = some cf116), (by kernel_rfl : (fun f => tree.get (Dx.key f)) 117 = some cf117), (by kernel_rfl : (fun f => tree.get (Dx.key f)) 120 = some cf120), (by kernel_rfl : (fun f => tree.get (Dx.key f)) 143 = some cf143)⟩ ⟨(by kernel_rfl : (fun f => tree.get (Dx.key f)) 54 = some cf54), (by kernel_rfl : (fun f => tree.get (Dx.key f)) 105 = some cf105), (by kernel_rfl : (fun f => tree.get (Dx.key f)) 106 = some cf106), (by kernel_rfl : (fun f => tree.get (Dx.key f)) 107 = some cf107), (by kernel_rfl : (fun f => tree.get (Dx.key f)) 121 = some cf121), (by kernel_rfl : (fun f => tree.get (Dx.key f)) 132 = some cf132), (by kernel_rfl : (fun f => tree.get (Dx.key f)) 133 = some cf133), (by kernel_rfl : (fun f => tree.get (Dx.key f)) 134 = some cf134), (by kernel_rfl : (fun f => tree.get (Dx.key f)) 135 = some cf135), (by kernel_rfl : (fun f => tree.get (Dx.key f)) 136 = some cf136), (by kernel_rfl : (fun f => tree.get (Dx.key f)) 137 = some cf137), (by kernel_rfl : (fun f => tree.get (Dx.key f)) 138 = some cf138), (by kernel_rfl : (fun f => tree.get (Dx.key f)) 145 = some cf145)⟩ (by kernel_rfl : (fun f => tree.get (Dx.key f)) 9 = some cf9) (by kernel_rfl : (fun f => tree.get (Dx.key f)) 13 = some kf13) rfl (by kernel_rfl : (fun f => tree.get (Dx.key f)) 14 = some cf14) (by kernel_rfl : (fun f => tree.get (Dx.key f)) 16 = some cf16) (by kernel_rfl : (fun f => tree.get (Dx.key f)) 27 = some cf27) (by kernel_rfl : (fun f => tree.get (Dx.key f)) 30 = some cf30) (by kernel_rfl : (fun f => tree.get (Dx.key f)) 32 = some cf32) (by kernel_rfl : (fun f => tree.get (Dx.key f)) 33 = some cf33) (by kernel_rfl : (fun f => tree.get (Dx.key f)) 52 = some cf52) (by kernel_rfl : (fun f => tree.get (Dx.key f)) 53 = some cf53) (by kernel_rfl : (fun f => tree.get (Dx.key f)) 55 = some cf55) (by kernel_rfl : (fun f => tree.get (Dx.key f)) 79 = some cf79) (by kernel_rfl : (fun f => tree.get (Dx.key f)) 104 = some nf104) rfl (by kernel_rfl : (fun f => tree.get (Dx.key f)) 108 = some cf108) h) hrel (⟨_, _, rfl, hx, rfl⟩) rfl
set_option maxRecDepth 100000 in
theorem lifted (os : Os) (started : os.Started) (H : Type) (enc : TypeId × Value → H) :
    ReturnsInHanded {} Try.checked os 9 .any (Rows.stackCountsSpec.pre6 enc Try.prog Try.f9 Rows.stackCountsRow.domain false) (Rows.stackCountsSpec.post enc Try.prog Try.f9 false true false false) := by
  refine returnsInHanded_of_change (C := Try.checked) own started (by kernel_rfl) Try.func9
    (ChangeSpec.witness6 (enc := enc) (C := Try.checked) false ⟨#[], #[.slice none 0 0], []⟩ 8 (by kernel_rfl) (by kernel_rfl) (by kernel_rfl) (by kernel_rfl)) ?_
  intro W base args ds gs before hval0 hW hcnd _
  have hval : ∀ (j : Nat) t v, Try.f9.params[j]? = some t → args[j]? = some v → Value.okWide Try.prog W .any base t v := hval0
  have hW' := hW
  obtain ⟨p, q, hA0, hV, rfl, hfz, hnd⟩ := hW
  have hA : DataW.TrodAll enc Try.prog W 0 (fun _ => true) true Try.f9.params.toList args.toList ds p := hA0
  rw [Try.params9] at hA hval
  obtain ⟨v0, vs0, d0, ds0, p0, q0, hargs, rfl, rfl, h0, r0⟩ := trodAll_cons hA
  obtain ⟨rfl, rfl, rfl⟩ := trodAll_nil r0
  obtain rfl : args = #[v0] := by cases args; simp_all
  obtain ⟨rfl, rfl⟩ := trodVars_none hV
  have k0 := h0
  have lt0 : ∀ x ∈ p0, x.block < W.heap.size := by obtain ⟨m, hm⟩ := k0; exact DataW.trod_lt m _ _ _ hm
  obtain ⟨sv, len, xs, h⟩ := Dx.slice_arg (ks := [.i .u8, .i .u8, .i .u8]) Try.underlying83 (by kernel_rfl) (by kernel_rfl) (by decide) (hval 0 83 v0 rfl rfl) h0
  clear hA0 hval0
  refine (walk v0 sv len xs W h).mono fun e W' ⟨he, bel⟩ => ?_
  subst he
  exact ⟨_, rfl, _, _, _, [], _, [], hW', trodAll_mk1 (shut_bool Try.underlying4 _), (trodAll_cons_mk (Below.trod laidOut (by kernel_rfl) (of_decide_eq_true (by kernel_rfl)) k0 bel lt0) trodAll_mk0), rfl, bel.frame _, fun h => by cases h⟩
theorem over : Rows.stackCountsRow.holds Try.pinned (OpenSpec.ofChange Rows.stackCountsSpec) :=
  OpenClaim.holds_of_wide 9 Try.f9 rfl rfl rfl rfl rfl rfl rfl ⟨rfl, rfl, rfl, rfl, rfl⟩ rfl rfl rfl rfl rfl (by kernel_rfl) Try.func9 (by kernel_rfl)
    (of_decide_eq_true (by kernel_rfl)) (by unfold Func.isWrapper; first | (rw [if_pos (by decide +kernel)]; kernel_rfl) | (rw [if_neg (by decide +kernel)]; exact ⟨rfl, rfl⟩))
    (fun os started H enc _ => lifted os started H enc)
theorem proved : Rows.StackCountsSaid := over
#print axioms proved
end Go.Proofs.Ythpnhdopheofcaa.stackCounts
