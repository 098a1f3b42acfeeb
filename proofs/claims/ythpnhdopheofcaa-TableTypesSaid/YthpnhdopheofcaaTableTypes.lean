/-
  The law TableTypes holds: its function returns true, whatever the arguments and the world. No conditions.
-/
import Derived.Test.YthpnhdopheofcaaRows
import Derived.WalkKit
import Derived.ProofKit
import Derived.OpenShut
import Derived.ShutString
import Derived.ChangeOld
import Derived.Below
import Derived.Test.YthpnhdopheofcaaTt
import Derived.Test.YthpnhdopheofcaaDxPair
import Derived.Test.YthpnhdopheofcaaDxOpen
import Derived.Test.YthpnhdopheofcaaFns
set_option linter.unusedSimpArgs false
set_option linter.unusedVariables false
namespace Go.Proofs.Ythpnhdopheofcaa.tableTypes
open Go.ChangeShapes Go.WideShapes Go.ChangeAt Go.RowKit
set_option linter.unusedVariables false

theorem own : ownKnob Try.prog.godebug = none := by kernel_rfl
theorem laidOut : laidOutB Try.prog = true := by kernel_rfl

/-- The contract of the law's function, at what came in. -/
theorem walk (a0 b0 : Int) (a1 b1 : Int) (a2 b2 : Int) (w : World) (w0a : (Lit.int .i64 a0).wf = true) (w0b : (Lit.int .i64 b0).wf = true) (w1a : (Lit.int .i64 a1).wf = true) (w1b : (Lit.int .i64 b1).wf = true) (w2a : (Lit.int .i64 a2).wf = true) (w2b : (Lit.int .i64 b2).wf = true) :
    Calls Try.prog 8 #[.agg #[.int .i64 a0, .int .i64 b0], .agg #[.int .i64 a1, .int .i64 b1], .agg #[.int .i64 a2, .int .i64 b2]] w fun e w' => e = .returned (.bool true) ∧ Below w.heap.size w w' := by
  obtain ⟨G, ρ, hs, hro, hrel, _⟩ := Dx.arg_rel (w := w) (ks := []) (v := .slice none 0 0) (sv := .nilslice) (len := 0) (xs := []) (.inl ⟨rfl, rfl, rfl, rfl⟩)
  exact Dx.open_calls table («as» := .cons (.agg (.cons (.int 3 a0) (.cons (.int 3 b0) .nil))) (.cons (.agg (.cons (.int 3 a1) (.cons (.int 3 b1) .nil))) (.cons (.agg (.cons (.int 3 a2) (.cons (.int 3 b2) .nil))) (.nil)))) hs hro (tableTypes ⟨(by kernel_rfl : (fun f => tree.get (Dx.key f)) 25 = some cf25),(by kernel_rfl : (fun f => tree.get (Dx.key f)) 40 = some cf40),(by kernel_rfl : (fun f => tree.get (Dx.key f)) 41 = some cf41),(by kernel_rfl : (fun f => tree.get (Dx.key f)) 44 = some cf44),(by kernel_rfl : (fun f => tree.get (Dx.key f)) 45 = some cf45),(by kernel_rfl : (fun f => tree.get (Dx.key f)) 46 = some cf46),(by kernel_rfl : (fun f => tree.get (Dx.key f)) 47 = some cf47),(by kernel_rfl : (fun f => tree.get (Dx.key f)) 48 = some cf48),(by kernel_rfl : (fun f => tree.get (Dx.key f)) 49 = some cf49),(by kernel_rfl : (fun f => tree.get (Dx.key f)) 50 = some cf50),(by kernel_rfl : (fun f => tree.get (Dx.key f)) 51 = some cf51),(by kernel_rfl : (fun f => tree.get (Dx.key f)) 75 = some cf75),(by kernel_rfl : (fun f => tree.get (Dx.key f)) 76 = some cf76),(by kernel_rfl : (fun f => tree.get (Dx.key f)) 77 = some cf77),(by kernel_rfl : (fun f => tree.get (Dx.key f)) 81 = some cf81),(by kernel_rfl : (fun f => tree.get (Dx.key f)) 84 = some cf84),(by kernel_rfl : (fun f => tree.get (Dx.key f)) 85 = some cf85),(by kernel_rfl : (fun f => tree.get (Dx.key f)) 86 = some cf86),(by kernel_rfl : (fun f => tree.get (Dx.key f)) 87 = some cf87),(by kernel_rfl : (fun f => tree.get (Dx.key f)) 88 = some cf88),(by kernel_rfl : (fun f => tree.get (Dx.key f)) 91 = some cf91),(by kernel_rfl : (fun f => tree.get (Dx.key f)) 96 = some cf96),(by kernel_rfl : (fun f => tree.get (Dx.key f)) 99 = some cf99),(by kernel_rfl : (fun f => tree.get (Dx.key f)) 100 = some cf100),(by kernel_rfl : (fun f => tree.get (Dx.key f)) 103 = some cf103),(by kernel_rfl : (fun f => tree.get (Dx.key f)) 115 = some cf115),(by kernel_rfl : (fun f => tree.get (Dx.key f)) 117 = some cf117),(by kernel_rfl : (fun f => tree.get (Dx.key f)) 121 = some cf121),(by kernel_rfl : (fun f => tree.get (Dx.key f)) 122 = some cf122),(by kernel_rfl : (fun f => tree.get (Dx.key f)) 123 = some cf123),(by kernel_rfl : (fun f => tree.get (Dx.key f)) 124 = some cf124),(by kernel_rfl : (fun f => tree.get (Dx.key f)) 130 = some cf130),(by kernel_rfl : (fun f => tree.get (Dx.key f)) 131 = some cf131),(by kernel_rfl : (fun f => tree.get (Dx.key f)) 143 = some cf143),(by kernel_rfl : (fun f => tree.get (Dx.key f)) 145 = some cf145)⟩ (by kernel_rfl : (fun f => tree.get (Dx.key f)) 8 = some cf8) (by kernel_rfl : (fun f => tree.get (Dx.key f)) 39 = some kf39) (by kernel_rfl : (fun f => tree.get (Dx.key f)) 43 = some cf43) (by kernel_rfl : (fun f => tree.get (Dx.key f)) 30 = some cf30) (t := ⟨a0, b0⟩) (kv := ⟨a1, b1⟩) (vv := ⟨a2, b2⟩)) hrel (⟨_, _, rfl, ⟨_, rfl, rfl, ⟨_, _, rfl, ⟨by decide, rfl⟩, ⟨_, _, rfl, ⟨by decide, rfl⟩, rfl⟩⟩⟩, ⟨_, _, rfl, ⟨_, rfl, rfl, ⟨_, _, rfl, ⟨by decide, rfl⟩, ⟨_, _, rfl, ⟨by decide, rfl⟩, rfl⟩⟩⟩, ⟨_, _, rfl, ⟨_, rfl, rfl, ⟨_, _, rfl, ⟨by decide, rfl⟩, ⟨_, _, rfl, ⟨by decide, rfl⟩, rfl⟩⟩⟩, rfl⟩⟩⟩) rfl

set_option maxRecDepth 100000 in
theorem lifted (os : Os) (started : os.Started) (H : Type) (enc : TypeId × Value → H) :
    ReturnsInHanded {} Try.checked os 8 .any (Rows.tableTypesSpec.pre6 enc Try.prog Try.f8 Rows.tableTypesRow.domain false) (Rows.tableTypesSpec.post enc Try.prog Try.f8 false true false false) := by
  refine returnsInHanded_of_change (C := Try.checked) own started (by kernel_rfl) Try.func8
    (ChangeSpec.witness6 (enc := enc) (C := Try.checked) false ⟨#[], #[.agg #[.int .i64 0, .int .i64 0], .agg #[.int .i64 0, .int .i64 0], .agg #[.int .i64 0, .int .i64 0]], []⟩ 8 (by kernel_rfl) (by kernel_rfl) (by kernel_rfl) (by kernel_rfl)) ?_
  intro W base args ds gs before hval0 hW hcnd _
  have hval : ∀ (j : Nat) t v, Try.f8.params[j]? = some t → args[j]? = some v → Value.okWide Try.prog W .any base t v := hval0
  have hW' := hW
  obtain ⟨p, q, hA0, hV, rfl, hfz, hnd⟩ := hW
  have hA : DataW.TrodAll enc Try.prog W 0 (fun _ => true) true Try.f8.params.toList args.toList ds p := hA0
  rw [Try.params8] at hA hval
  obtain ⟨v0, vs0, d0, ds0, p0, q0, hargs, rfl, rfl, h0, r0⟩ := trodAll_cons hA
  obtain ⟨v1, vs1, d1, ds1, p1, q1, rfl, rfl, rfl, h1, r1⟩ := trodAll_cons r0
  obtain ⟨v2, vs2, d2, ds2, p2, q2, rfl, rfl, rfl, h2, r2⟩ := trodAll_cons r1
  obtain ⟨rfl, rfl, rfl⟩ := trodAll_nil r2
  obtain rfl : args = #[v0, v1, v2] := by cases args; simp_all
  obtain ⟨rfl, rfl⟩ := trodVars_none hV
  have k0 := h0
  have lt0 : ∀ x ∈ p0, x.block < W.heap.size := by obtain ⟨m, hm⟩ := k0; exact DataW.trod_lt m _ _ _ hm
  obtain ⟨a0, b0, rfl, w0a, w0b⟩ := Dx.struct_arg Try.underlying28 Try.underlying3 Try.underlying2 (by kernel_rfl) (by kernel_rfl) (hval 0 28 v0 rfl rfl)
  have k1 := h1
  have lt1 : ∀ x ∈ p1, x.block < W.heap.size := by obtain ⟨m, hm⟩ := k1; exact DataW.trod_lt m _ _ _ hm
  obtain ⟨a1, b1, rfl, w1a, w1b⟩ := Dx.struct_arg Try.underlying28 Try.underlying3 Try.underlying2 (by kernel_rfl) (by kernel_rfl) (hval 1 28 v1 rfl rfl)
  have k2 := h2
  have lt2 : ∀ x ∈ p2, x.block < W.heap.size := by obtain ⟨m, hm⟩ := k2; exact DataW.trod_lt m _ _ _ hm
  obtain ⟨a2, b2, rfl, w2a, w2b⟩ := Dx.struct_arg Try.underlying28 Try.underlying3 Try.underlying2 (by kernel_rfl) (by kernel_rfl) (hval 2 28 v2 rfl rfl)
  clear hA0 hval0
  refine (walk a0 b0 a1 b1 a2 b2 W w0a w0b w1a w1b w2a w2b).mono fun e W' ⟨he, bel⟩ => ?_
  subst he
  exact ⟨_, rfl, _, _, _, [], _, [], hW', trodAll_mk1 (shut_bool Try.underlying4 _), (trodAll_cons_mk (Below.trod laidOut (by kernel_rfl) (of_decide_eq_true (by kernel_rfl)) k0 bel lt0) (trodAll_cons_mk (Below.trod laidOut (by kernel_rfl) (of_decide_eq_true (by kernel_rfl)) k1 bel lt1) (trodAll_cons_mk (Below.trod laidOut (by kernel_rfl) (of_decide_eq_true (by kernel_rfl)) k2 bel lt2) trodAll_mk0))), rfl, bel.frame _, fun h => by cases h⟩

theorem over : Rows.tableTypesRow.holds Try.pinned (OpenSpec.ofChange Rows.tableTypesSpec) :=
  OpenClaim.holds_of_wide 8 Try.f8 rfl rfl rfl rfl rfl rfl rfl ⟨rfl, rfl, rfl, rfl, rfl⟩ rfl rfl rfl rfl rfl (by kernel_rfl) Try.func8 (by kernel_rfl)
    (of_decide_eq_true (by kernel_rfl)) (by unfold Func.isWrapper; first | (rw [if_pos (by decide +kernel)]; kernel_rfl) | (rw [if_neg (by decide +kernel)]; exact ⟨rfl, rfl⟩))
    (fun os started H enc _ => lifted os started H enc)

/-- The statement. -/
theorem proved : Rows.TableTypesSaid := over
#print axioms proved
end Go.Proofs.Ythpnhdopheofcaa.tableTypes
