/-
  The law TableCounts holds: its function returns true, whatever the arguments and the world. No conditions.
-/
import Derived.Test.YthpnhdopheofcaaRows
import Derived.WalkKit
import Derived.ProofKit
import Derived.OpenShut
import Derived.ShutString
import Derived.ChangeOld
import Derived.Below
import Derived.Test.YthpnhdopheofcaaTy
import Derived.Test.YthpnhdopheofcaaFns
set_option linter.unusedSimpArgs false
set_option linter.unusedVariables false
namespace Go.Proofs.Ythpnhdopheofcaa.tableCounts
open Go.ChangeShapes Go.WideShapes Go.ChangeAt Go.RowKit
set_option linter.unusedVariables false
theorem own : ownKnob Try.prog.godebug = none := by kernel_rfl
theorem laidOut : laidOutB Try.prog = true := by kernel_rfl
theorem walk (v0 : Value) (sv : Dx.AV) (len : Nat) (xs : List (List Dx.AV)) (w : World) (h : Dx.ArgSl [.i .u8, .i .u8, .i .u8, .i .u8] w v0 sv len xs) :
    Calls Try.prog 12 #[v0] w fun e w' => e = .returned (.bool true) ∧ Below w.heap.size w w' := by
  obtain ⟨G, ρ, hs, hro, hrel, hx⟩ := Dx.arg_rel h
  exact Dx.open_calls table («as» := .cons sv (.nil)) hs hro (tcounts_arg ⟨⟨(by kernel_rfl : (fun f => tree.get (Dx.key f)) 25 = some cf25), (by kernel_rfl : (fun f => tree.get (Dx.key f)) 40 = some cf40), (by kernel_rfl : (fun f => tree.get (Dx.key f)) 41 = some cf41), (by kernel_rfl : (fun f => tree.get (Dx.key f)) 44 = some cf44), (by kernel_rfl : (fun f => tree.get (Dx.key f)) 45 = some cf45), (by kernel_rfl : (fun f => tree.get (Dx.key f)) 46 = some cf46), (by kernel_rfl : (fun f => tree.get (Dx.key f)) 47 = some cf47), (by kernel_rfl : (fun f => tree.get (Dx.key f)) 48 = some cf48), (by kernel_rfl : (fun f => tree.get (Dx.key f)) 49 = some cf49), (by kernel_rfl : (fun f => tree.get (Dx.key f)) 50 = some cf50), (by kernel_rfl : (fun f => tree.get (Dx.key f)) 51 = some cf51), (by kernel_rfl : (fun f => tree.get (Dx.key f)) 75 = some cf75), (by kernel_rfl : (fun f => tree.get (Dx.key f)) 76 = some cf76), (by kernel_rfl : (fun f => tree.get (Dx.key f)) 77 = some cf77), (by kernel_rfl : (fun f => tree.get (Dx.key f)) 81 = some cf81), (by kernel_rfl : (fun f => tree.get (Dx.key f)) 84 = some cf84), (by kernel_rfl : (fun f => tree.get (Dx.key f)) 85 = some cf85), (by kernel_rfl : (fun f => tree.get (Dx.key f)) 86 = some cf86), (by kernel_rfl : (fun f => tree.get (Dx.key f)) 87 = some cf87), (by kernel_rfl : (fun f => tree.get (Dx.key f)) 88 = some cf88), (by kernel_rfl : (fun f => tree.get (Dx.key f)) 89 = some cf89), (by kernel_rfl : (fun f => tree.get (Dx.key f)) 90 = some cf90), (by kernel_rfl : (fun f => tree.get (Dx.key f)) 91 = some cf91), (by kernel_rfl : (fun f => tree.get (Dx.key f)) 92 = some cf92), (by kernel_rfl : (fun f => tree.get (Dx.key f)) 93 = some cf93), (by kernel_rfl : (fun f => tree.get (Dx.key f)) 94 = some cf94), (by kernel_rfl : (fun f => tree.get (Dx.key f)) 95 = some cf95), (by kernel_rfl : (fun f => tree.get (Dx.key f)) 96 = some cf96), (by kernel_rfl : (fun f => tree.get (Dx.key f)) 97 = some cf97), (by kernel_rfl : (fun f => tree.get (Dx.key f)) 98 = some cf98), (by kernel_rfl : (fun f => tree.get (Dx.key f)) 99 = some cf99), (by kernel_rfl : (fun f => tree.get (Dx.key f)) 100 = some cf100), (by kernel_rfl : (fun f => tree.get (Dx.key f)) 103 = some cf103), (by kernel_rfl : (fun f => tree.get (Dx.key f)) 115 = some cf115), (by kernel_rfl : (fun f => tree.get (Dx.key f)) 117 = some cf117), (by kernel_rfl : (fun f => tree.get (Dx.key f)) 121 = some cf121), (by kernel_rfl : (fun f => tree.get (Dx.key f)) 122 = some cf122), (by kernel_rfl : (fun f => tree.get (Dx.key f)) 123 = some cf123), (by kernel_rfl : (fun f => tree.get (Dx.key f)) 124 = some cf124), (by kernel_rfl : (fun f => tree.get (Dx.key f)) 125 = some cf125), (by kernel_rfl : (fun f => tree.get (Dx.key f)) 126 = some cf126), (by kernel_rfl : (fun f => tree.get (Dx.key f)) 127 = some cf127), (by kernel_rfl : (fun f => tree.get (Dx.key f)) 128 = some cf128), (by kernel_rfl : (fun f => tree.get (Dx.key f)) 129 = some cf129), (by kernel_rfl : (fun f => tree.get (Dx.key f)) 130 = some cf130), (by kernel_rfl : (fun f => tree.get (Dx.key f)) 131 = some cf131), (by kernel_rfl : (fun f => tree.get (Dx.key f)) 143 = some cf143), (by kernel_rfl : (fun f => tree.get (Dx.key f)) 145 = some cf145), (by kernel_rfl : (fun f => tree.get (Dx.key f)) 146 = some cf146), (by kernel_rfl : (fun f => tree.get (Dx.key f)) 147 = some cf147), (by kernel_rfl : (fun f => tree.get (Dx.key f)) 148 = some cf148), (by kernel_rfl : (fun f => tree.get (Dx.key f)) 149 = some cf149), (by kernel_rfl : (fun f => tree.get (Dx.key f)) 150 = some cf150), (by kernel_rfl : (fun f => tree.get (Dx.key f)) 151 = some cf151), (by kernel_rfl : (fun f => tree.get (Dx.key f)) 152 = some cf152)⟩, (by kernel_rfl : (fun f => tree.get (Dx.key f)) 18 = some cf18), (by kernel_rfl : (fun f => tree.get (Dx.key f)) 38 = some cf38), (by kernel_rfl : (fun f => tree.get (Dx.key f)) 71 = some cf71), (by kernel_rfl : (fun f => tree.get (Dx.key f)) 79 = some cf79), (by kernel_rfl : (fun f => tree.get (Dx.key f)) 80 = some cf80), (by kernel_rfl : (fun f => tree.get (Dx.key f)) 83 = some cf83), (by kernel_rfl : (fun f => tree.get (Dx.key f)) 101 = some cf101), (by kernel_rfl : (fun f => tree.get (Dx.key f)) 120 = some cf120)⟩ ⟨(by kernel_rfl : (fun f => tree.get (Dx.key f)) 54 = some cf54), (by kernel_rfl : (fun f => tree.get (Dx.key f)) 105 = some cf105), (by kernel_rfl : (fun f => tree.get (Dx.key f)) 106 = some cf106), (by kernel_rfl : (fun f => tree.get (Dx.key f)) 107 = some cf107), (by kernel_rfl : (fun f => tree.get (Dx.key f)) 121 = some cf121), (by kernel_rfl : (fun f => tree.get (Dx.key f)) 132 = some cf132), (by kernel_rfl : (fun f => tree.get (Dx.key f)) 133 = some cf133), (by kernel_rfl : (fun f => tree.get (Dx.key f)) 134 = some cf134), (by kernel_rfl : (fun f => tree.get (Dx.key f)) 135 = some cf135), (by kernel_rfl : (fun f => tree.get (Dx.key f)) 136 = some cf136), (by kernel_rfl : (fun f => tree.get (Dx.key f)) 137 = some cf137), (by kernel_rfl : (fun f => tree.get (Dx.key f)) 138 = some cf138), (by kernel_rfl : (fun f => tree.get (Dx.key f)) 145 = some cf145)⟩ (by kernel_rfl : (fun f => tree.get (Dx.key f)) 12 = some cf12) (by kernel_rfl : (fun f => tree.get (Dx.key f)) 39 = some kf39) rfl (by kernel_rfl : (fun f => tree.get (Dx.key f)) 66 = some cf66) (by kernel_rfl : (fun f => tree.get (Dx.key f)) 42 = some cf42) (by kernel_rfl : (fun f => tree.get (Dx.key f)) 43 = some cf43) (by kernel_rfl : (fun f => tree.get (Dx.key f)) 30 = some cf30) (by kernel_rfl : (fun f => tree.get (Dx.key f)) 108 = some cf108) (by kernel_rfl : (fun f => tree.get (Dx.key f)) 55 = some cf55) (by kernel_rfl : (fun f => tree.get (Dx.key f)) 53 = some cf53) (by kernel_rfl : (fun f => tree.get (Dx.key f)) 104 = some nf104) rfl h) hrel (⟨_, _, rfl, hx, rfl⟩) rfl
set_option maxRecDepth 100000 in
theorem lifted (os : Os) (started : os.Started) (H : Type) (enc : TypeId × Value → H) :
    ReturnsInHanded {} Try.checked os 12 .any (Rows.tableCountsSpec.pre6 enc Try.prog Try.f12 Rows.tableCountsRow.domain false) (Rows.tableCountsSpec.post enc Try.prog Try.f12 false true false false) := by
  refine returnsInHanded_of_change (C := Try.checked) own started (by kernel_rfl) Try.func12
    (ChangeSpec.witness6 (enc := enc) (C := Try.checked) false ⟨#[], #[.slice none 0 0], []⟩ 8 (by kernel_rfl) (by kernel_rfl) (by kernel_rfl) (by kernel_rfl)) ?_
  intro W base args ds gs before hval0 hW hcnd _
  have hval : ∀ (j : Nat) t v, Try.f12.params[j]? = some t → args[j]? = some v → Value.okWide Try.prog W .any base t v := hval0
  have hW' := hW
  obtain ⟨p, q, hA0, hV, rfl, hfz, hnd⟩ := hW
  have hA : DataW.TrodAll enc Try.prog W 0 (fun _ => true) true Try.f12.params.toList args.toList ds p := hA0
  rw [Try.params12] at hA hval
  obtain ⟨v0, vs0, d0, ds0, p0, q0, hargs, rfl, rfl, h0, r0⟩ := trodAll_cons hA
  obtain ⟨rfl, rfl, rfl⟩ := trodAll_nil r0
  obtain rfl : args = #[v0] := by cases args; simp_all
  obtain ⟨rfl, rfl⟩ := trodVars_none hV
  have k0 := h0
  have lt0 : ∀ x ∈ p0, x.block < W.heap.size := by obtain ⟨m, hm⟩ := k0; exact DataW.trod_lt m _ _ _ hm
  obtain ⟨sv, len, xs, h⟩ := Dx.slice_arg (ks := [.i .u8, .i .u8, .i .u8, .i .u8]) Try.underlying104 (by kernel_rfl) (by kernel_rfl) (by decide) (hval 0 104 v0 rfl rfl) h0
  clear hA0 hval0
  refine (walk v0 sv len xs W h).mono fun e W' ⟨he, bel⟩ => ?_
  subst he
  exact ⟨_, rfl, _, _, _, [], _, [], hW', trodAll_mk1 (shut_bool Try.underlying4 _), (trodAll_cons_mk (Below.trod laidOut (by kernel_rfl) (of_decide_eq_true (by kernel_rfl)) k0 bel lt0) trodAll_mk0), rfl, bel.frame _, fun h => by cases h⟩
theorem over : Rows.tableCountsRow.holds Try.pinned (OpenSpec.ofChange Rows.tableCountsSpec) :=
  OpenClaim.holds_of_wide 12 Try.f12 rfl rfl rfl rfl rfl rfl rfl ⟨rfl, rfl, rfl, rfl, rfl⟩ rfl rfl rfl rfl rfl (by kernel_rfl) Try.func12 (by kernel_rfl)
    (of_decide_eq_true (by kernel_rfl)) (by unfold Func.isWrapper; first | (rw [if_pos (by decide +kernel)]; kernel_rfl) | (rw [if_neg (by decide +kernel)]; exact ⟨rfl, rfl⟩))
    (fun os started H enc _ => lifted os started H enc)
theorem proved : Rows.TableCountsSaid := over
#print axioms proved
end Go.Proofs.Ythpnhdopheofcaa.tableCounts
