/-
  The law CallRaw: its call returns true.
-/
import Derived.Test.YtpmfhinbmnaomaaGreatDoorRows
import Derived.Test.YtpmfhinbmnaomaaGreatDoorTie
import Derived.Test.YtpmfhinbmnaomaaGreatDoorCards
import Derived.WalkKit
import Derived.DataShut
import Derived.ProofKit
import Derived.LaidMore
import Derived.LaidSub
import Derived.Shelf.Vars
import Derived.OpenShut
import Derived.Stop.Joined
import Derived.Stop.LaidErr
import Derived.SevenTiedAt
import Derived.Lib.LaidTab
import Derived.Test.YtpmfhinbmnaomaaGreatDoorCallRawRunB
namespace Go.Proofs.YtpmfhinbmnaomaaGreatDoor.callRaw
open Go.ChangeShapes Go.WideShapes Go.ChangeAt Go.RowKit
set_option linter.unusedVariables false
set_option linter.unusedSimpArgs false
set_option linter.deprecated false

theorem own : ownKnob Tryz.prog.godebug = none := by kernel_rfl
abbrev L : List (String × DataW Unit) := Rows.callRawRow.laid
theorem gN0 : Tryz.prog.globalNamed "internal/strconv.uint64pow10" = some 0 := by kernel_rfl
theorem gT0 : (Tryz.prog.globals[0]?).map (·.type) = some 287 := by kernel_rfl
theorem gC0 : Tryz.prog.cellsOf 287 = 20 := by kernel_rfl
theorem gE0 : Tryz.prog.cellsOf 269 = 1 := by kernel_rfl
theorem gN2 : Tryz.prog.globalNamed "math/bits.deBruijn64tab" = some 2 := by kernel_rfl
theorem gT2 : (Tryz.prog.globals[2]?).map (·.type) = some 290 := by kernel_rfl
theorem gC2 : Tryz.prog.cellsOf 290 = 64 := by kernel_rfl
theorem gE2 : Tryz.prog.cellsOf 5 = 1 := by kernel_rfl
/-- What is laid and is no handle. -/
abbrev LP : List (String × DataW Unit) := [("math/bits.deBruijn32tab", Rows.laid_math_bits_deBruijn32tab), ("math/bits.deBruijn64tab", Rows.laid_math_bits_deBruijn64tab), ("internal/strconv.uint64pow10", Rows.laid_internal_strconv_uint64pow10)]
theorem LP_eq : (L.filter fun x => x.2.handleName?.isNone) = LP := by kernel_rfl
set_option maxRecDepth 100000 in
theorem tabs_met {W : World} (h : laidMetH Tryz.prog L W) : ∃ ρ, Dx.GOk 3 ρ (vars) 3 W := by
  have h := (laidMetH_iff.1 h).1
  rw [LP_eq] at h
  have h0 := Lib.tabIs_of_head (k := .u64) (zs := [1, 10, 100, 1000, 10000, 100000, 1000000, 10000000, 100000000, 1000000000, 10000000000, 100000000000, 1000000000000, 10000000000000, 100000000000000, 1000000000000000, 10000000000000000, 100000000000000000, 1000000000000000000, 10000000000000000000]) gN0 gT0 Tryz.underlying287 Tryz.underlying269 gE0 gC0 (laidMet.tail (laidMet.tail h))
  have h2 := Lib.tabIs_of_head (k := .u8) (zs := [0, 1, 56, 2, 57, 49, 28, 3, 61, 58, 42, 50, 38, 29, 17, 4, 62, 47, 59, 36, 45, 43, 51, 22, 53, 39, 33, 30, 24, 18, 12, 5, 63, 55, 48, 27, 60, 41, 37, 16, 46, 35, 44, 21, 52, 32, 23, 11, 54, 26, 40, 15, 34, 20, 31, 10, 25, 14, 19, 9, 13, 8, 7, 6]) gN2 gT2 Tryz.underlying290 Tryz.underlying5 gE2 gC2 (laidMet.tail h)
  have hsize : 3 ≤ W.heap.size := by
    have := h2.cell gN2 0 (by decide)
    unfold World.cell? at this
    rcases Nat.lt_or_ge 2 W.heap.size with hlt | hge
    · exact hlt
    · rw [Array.getElem?_eq_none hge] at this; cases this
  have htabs : ∀ q ∈ tabs, q.1 < 3 ∧ q.2.1 < 8 ∧ q.2.2 ≠ [] ∧ ∀ i, i < q.2.2.length → W.cell? ⟨q.1, i, none⟩ = some (.int (Dx.kindOf q.2.1) (q.2.2.getD i 0)) := fun q hq => by
    simp only [tabs, List.mem_cons, List.not_mem_nil, or_false] at hq
    subst hq
    exact ⟨by decide, by decide, by decide, fun i hi => h0.cell gN0 i hi⟩
  exact ⟨_, Dx.GOk.tabs hsize (tabs) htabs⟩
set_option maxRecDepth 100000 in
theorem below : ∀ q ∈ vars, q.1 < 3 := by
  intro q hq
  obtain ⟨a, ha, rfl⟩ := List.mem_map.1 hq
  simp only [tabs, List.mem_cons, List.not_mem_nil, or_false] at ha
  subst ha
  show 0 < 3
  omega
theorem rinv : Dx.RInv (start) := fun p t n op h => by
  obtain ⟨q, _, _, e⟩ := Dx.gTree_get h
  cases e
set_option maxRecDepth 100000 in
theorem walk (a0 : Int) (a1 : Int) (a2 : Bool) (w0 : (Lit.int .i64 a0).wf = true) (w1 : (Lit.int .i64 a1).wf = true) (W : World) (h : laidMetH Tryz.prog L W) :
    Calls Tryz.prog 3 #[.int .i64 a0, .int .i64 a1, .bool a2] W fun e w' => e = .returned (.bool true) ∧ W.keptBut w' (fun _ => False) := by
  obtain ⟨ρ, hg⟩ := tabs_met h
  obtain ⟨sz, hz⟩ := hg.globals 0 (by decide)
  have hpos : 0 < W.heap.size := (hg.names _ _ hz).2
  have g1 := hg.sym (by decide) hpos a0
  have g2 := g1.sym (by decide) hpos a1
  have b0 : (-9223372036854775808 : Int) ≤ a0 ∧ a0 ≤ 9223372036854775807 := (Lit.wf_int_iff .i64 a0).1 w0
  have b1 : (-9223372036854775808 : Int) ≤ a1 ∧ a1 ≤ 9223372036854775807 := (Lit.wf_int_iff .i64 a1).1 w1
  have hv : Dx.RX (Dx.symRen (Dx.symRen ρ (Dx.key 3) a0) (Dx.key 4) a1) (.sym (Dx.key 4) (.negSucc 9223372036854775807) (.ofNat 9223372036854775807)) [.int .i64 a1] := Dx.RX.symIn b1.1 b1.2
  have fin : ∀ k, Dx.K.holdsA (fun f => tree.get (Dx.key f)) 3 (argsK k a2) start = .yes → Dx.RX (Dx.symRen (Dx.symRen ρ (Dx.key 3) a0) (Dx.key 4) a1) k [.int .i64 a0] →
      Calls Tryz.prog 3 #[.int .i64 a0, .int .i64 a1, .bool a2] W fun e w' => e = .returned (.bool true) ∧ W.keptBut w' (fun _ => False) := fun k hk hx =>
    (Dx.K.holdsA_ok rinv hk).elim fun _ hr => Dx.closed_callsA table (Dx.gHeap_ro fun q hq => Nat.lt_of_lt_of_le (below q hq) (by decide)) hr (Dx.GOk.rel g2) rfl ⟨_, _, rfl, hx, _, _, rfl, hv, _, _, rfl, rfl, rfl⟩
  have ext := g1.symExt a1
  by_cases h0 : 0 < a0
  · by_cases h1 : 1 < a0
    · have hx := (Dx.RX.symIn (ρ := ρ) (q := Dx.key 3) (lo := .ofNat 2) (hi := .ofNat 9223372036854775807) (v := a0) h1 b0.2).mono ext
      cases a2
      · exact fin kHi runsHiF hx
      · exact fin kHi runsHiT hx
    · obtain rfl : a0 = 1 := by omega
      cases a2
      · exact fin kOne runsOneF ⟨by decide, rfl⟩
      · exact fin kOne runsOneT ⟨by decide, rfl⟩
  · have hx := (Dx.RX.symIn (ρ := ρ) (q := Dx.key 3) (lo := .negSucc 9223372036854775807) (hi := .ofNat 0) (v := a0) b0.1 (Int.not_lt.1 h0)).mono ext
    cases a2
    · exact fin kLo runsLoF hx
    · exact fin kLo runsLoT hx

theorem door_met (os : Os) (args : Array Value) : laidMetH Tryz.prog L ((World.doorLaid Tryz.prog 4000 os).forCall (fun _ _ => 0) ⟨#[], args, []⟩).memory :=
  laidMetH_of_parts3 (fuel := 8) (laidMet_of_run' 8 (by kernel_rfl) (by kernel_rfl)) (by kernel_rfl) (by kernel_rfl)

set_option maxRecDepth 100000 in
theorem lifted (os : Os) (started : os.Started) (H : Type) (enc : TypeId × Value → H) :
    ReturnsInHanded {} Tryz.checked os 3 .any (fun w args => (Rows.callRawSpec.pre enc Tryz.prog Tryz.f3 [] false w args ∧ laidMetH Tryz.prog L w) ∧ sizedMet enc Tryz.prog Tryz.f3 (OpenSpec.ofChange Rows.callRawSpec) false w args)
      (Rows.callRawSpec.post enc Tryz.prog Tryz.f3 false true false false) := by
  refine returnsInHanded_of_change_and (C := Tryz.checked) (X := fun w _ => laidMetH Tryz.prog L w) (fun _ _ _ hh h => h.of_heap hh) own started (by kernel_rfl) Tryz.func3
    (ChangeSpec.witness_shaped (enc := enc) (C := Tryz.checked) (os := os) (X := fun w _ => laidMetH Tryz.prog L w) false (World.doorLaid Tryz.prog 4000 os) #[.int .i64 0, .int .i64 0, .bool false] 8 rfl (World.shaped_of_RefB (by kernel_rfl) (by kernel_rfl)) (by kernel_rfl) (by kernel_rfl) (by kernel_rfl) (door_met os _)) ?_
  intro W base args ds gs before hval0 hW _ _ hL _
  have hval : ∀ (j : Nat) t v, Tryz.f3.params[j]? = some t → args[j]? = some v → Value.okWide Tryz.prog W .any base t v := hval0
  have hW' := hW
  obtain ⟨p, q, hA0, hV, rfl, hfz, hnd⟩ := hW
  have hA : DataW.TrodAll enc Tryz.prog W 0 (fun _ => true) true Tryz.f3.params.toList args.toList ds p := hA0
  rw [Tryz.params3] at hA hval
  obtain ⟨v0, vs0, d0, ds0, p0, q0, hargs, rfl, rfl, h0, r0⟩ := trodAll_cons hA
  obtain ⟨v1, vs1, d1, ds1, p1, q1, rfl, rfl, rfl, h1, r1⟩ := trodAll_cons r0
  obtain ⟨v2, vs2, d2, ds2, p2, q2, rfl, rfl, rfl, h2, r2⟩ := trodAll_cons r1
  obtain ⟨rfl, rfl, rfl⟩ := trodAll_nil r2
  obtain rfl : args = #[v0, v1, v2] := by cases args; simp_all
  obtain ⟨rfl, rfl⟩ := trodVars_none hV
  obtain ⟨a0, rfl, rfl, rfl, w0⟩ := open_int Tryz.underlying2 (hval 0 2 v0 rfl rfl) h0
  obtain ⟨a1, rfl, rfl, rfl, w1⟩ := open_int Tryz.underlying2 (hval 1 2 v1 rfl rfl) h1
  obtain ⟨a2, rfl, rfl, rfl⟩ := open_bool Tryz.underlying4 (hval 2 4 v2 rfl rfl) h2
  clear hA0 hval0
  simp only [List.append_nil] at hW'
  refine (walk a0 a1 a2 w0 w1 W hL).mono fun e W' ⟨he, hg⟩ => ?_
  subst he
  exact ⟨_, rfl, _, _, _, [], _, [], hW', (trodAll_cons_mk (shut_bool Tryz.underlying4 _) trodAll_mk0), (trodAll_cons_mk (shut_int Tryz.underlying2 w0) (trodAll_cons_mk (shut_int Tryz.underlying2 w1) (trodAll_cons_mk (shut_bool Tryz.underlying4 _) trodAll_mk0))), rfl, World.keptBut_mono (fun _ f => f.elim) hg, fun h => by cases h⟩

end Go.Proofs.YtpmfhinbmnaomaaGreatDoor.callRaw
