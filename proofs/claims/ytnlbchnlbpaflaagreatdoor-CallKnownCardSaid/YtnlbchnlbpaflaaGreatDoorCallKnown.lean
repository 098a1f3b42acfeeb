/-
  The law CallKnown holds: its function returns true, whatever the world in which its listed package-level variables hold what start-up lays. The tied card. No other conditions.
-/
import Derived.Test.YtnlbchnlbpaflaaGreatDoorRows
import Derived.Test.YtnlbchnlbpaflaaGreatDoorTie
import Derived.Test.YtnlbchnlbpaflaaGreatDoorCards
import Derived.WalkKit
import Derived.ProofKit
import Derived.LaidMore
import Derived.OpenShut
import Derived.Stop.Joined
import Derived.Stop.LaidErr
import Derived.SevenTiedAt
import Derived.Lib.LaidTab
import Derived.Test.YtnlbchnlbpaflaaGreatDoorCallKnownRun
namespace Go.Proofs.YtnlbchnlbpaflaaGreatDoor.callKnown
open Go.ChangeShapes Go.WideShapes Go.ChangeAt Go.RowKit
set_option linter.unusedVariables false
set_option linter.unusedSimpArgs false
set_option linter.deprecated false

theorem own : ownKnob Tryz.prog.godebug = none := by kernel_rfl
abbrev L : List (String × DataW Unit) := Rows.callKnownRow.laid
theorem gN0 : Tryz.prog.globalNamed "internal/strconv.uint64pow10" = some 0 := by kernel_rfl
theorem gT0 : (Tryz.prog.globals[0]?).map (·.type) = some 287 := by kernel_rfl
theorem gC0 : Tryz.prog.cellsOf 287 = 20 := by kernel_rfl
theorem gE0 : Tryz.prog.cellsOf 269 = 1 := by kernel_rfl
theorem gN2 : Tryz.prog.globalNamed "math/bits.deBruijn64tab" = some 2 := by kernel_rfl
theorem gT2 : (Tryz.prog.globals[2]?).map (·.type) = some 290 := by kernel_rfl
theorem gC2 : Tryz.prog.cellsOf 290 = 64 := by kernel_rfl
theorem gE2 : Tryz.prog.cellsOf 5 = 1 := by kernel_rfl
theorem tabs_met {W : World} (h : laidMetH Tryz.prog L W) : Dx.GOk 3 (Dx.gRen 3) (tabs.map fun q => (q.1, Dx.tabTree q.2.1 q.2.2)) 3 W := by
  rw [MakeChecks.laidMetH_plain _ _ _ (by kernel_rfl)] at h
  have h0 := Lib.tabIs_of_head (k := .u64) (zs := [1, 10, 100, 1000, 10000, 100000, 1000000, 10000000, 100000000, 1000000000, 10000000000, 100000000000, 1000000000000, 10000000000000, 100000000000000, 1000000000000000, 10000000000000000, 100000000000000000, 1000000000000000000, 10000000000000000000]) gN0 gT0 Tryz.underlying287 Tryz.underlying269 gE0 gC0 (laidMet.tail (laidMet.tail h))
  have h2 := Lib.tabIs_of_head (k := .u8) (zs := [0, 1, 56, 2, 57, 49, 28, 3, 61, 58, 42, 50, 38, 29, 17, 4, 62, 47, 59, 36, 45, 43, 51, 22, 53, 39, 33, 30, 24, 18, 12, 5, 63, 55, 48, 27, 60, 41, 37, 16, 46, 35, 44, 21, 52, 32, 23, 11, 54, 26, 40, 15, 34, 20, 31, 10, 25, 14, 19, 9, 13, 8, 7, 6]) gN2 gT2 Tryz.underlying290 Tryz.underlying5 gE2 gC2 (laidMet.tail h)
  have hsize : 3 ≤ W.heap.size := by
    have := h2.cell gN2 0 (by decide)
    unfold World.cell? at this
    rcases Nat.lt_or_ge 2 W.heap.size with hlt | hge
    · exact hlt
    · rw [Array.getElem?_eq_none hge] at this; cases this
  refine Dx.GOk.tabs hsize tabs fun q hq => ?_
  simp only [tabs, List.mem_cons, List.not_mem_nil, or_false] at hq
  subst hq
  exact ⟨by decide, by decide, by decide, fun i hi => h0.cell gN0 i hi⟩
theorem below : ∀ q ∈ tabs.map (fun q => (q.1, Dx.tabTree q.2.1 q.2.2)), q.1 < 3 := by
  intro q hq
  obtain ⟨a, ha, rfl⟩ := List.mem_map.1 hq
  simp only [tabs, List.mem_cons, List.not_mem_nil, or_false] at ha
  subst ha
  show 0 < 3
  omega
theorem rinv : Dx.RInv start := fun p t n op h => by
  obtain ⟨q, _, _, e⟩ := Dx.gTree_get h
  cases e
theorem walk (W : World) (h : laidMetH Tryz.prog L W) : Calls Tryz.prog 3 #[] W fun e w' => e = .returned (.bool true) ∧ W.keptBut w' (fun _ => False) :=
  (Dx.K.holdsG_ok rinv runs).elim fun _ hr => Dx.closed_callsG table (Dx.gHeap_ro below) hr (Dx.GOk.rel (tabs_met h))

theorem door_met (os : Os) (args : Array Value) : laidMetH Tryz.prog L ((World.doorLaid Tryz.prog 4000 os).forCall (fun _ _ => 0) ⟨#[], args, []⟩).memory :=
  laidMetH_of_parts3 (fuel := 8) (laidMet_of_run' 8 (by kernel_rfl) (by kernel_rfl)) (by kernel_rfl) (by kernel_rfl)

set_option maxRecDepth 100000 in
theorem lifted (os : Os) (started : os.Started) (H : Type) (enc : TypeId × Value → H) :
    ReturnsInHanded {} Tryz.checked os 3 .any (fun w args => (Rows.callKnownSpec.pre enc Tryz.prog Tryz.f3 [] false w args ∧ laidMetH Tryz.prog L w) ∧ sizedMet enc Tryz.prog Tryz.f3 (OpenSpec.ofChange Rows.callKnownSpec) false w args)
      (Rows.callKnownSpec.post enc Tryz.prog Tryz.f3 false true false false) := by
  refine returnsInHanded_of_change_and (C := Tryz.checked) (X := fun w _ => laidMetH Tryz.prog L w) (fun _ _ _ hh h => h.of_heap hh) own started (by kernel_rfl) Tryz.func3
    (ChangeSpec.witness_shaped (enc := enc) (C := Tryz.checked) (os := os) (X := fun w _ => laidMetH Tryz.prog L w) false (World.doorLaid Tryz.prog 4000 os) #[] 8 rfl (World.shaped_of_RefB (by kernel_rfl) (by kernel_rfl)) (by kernel_rfl) (by kernel_rfl) (by kernel_rfl) (door_met os _)) ?_
  intro W base args ds gs before hval0 hW _ _ hL _
  have hval : ∀ (j : Nat) t v, Tryz.f3.params[j]? = some t → args[j]? = some v → Value.okWide Tryz.prog W .any base t v := hval0
  have hW' := hW
  obtain ⟨p, q, hA0, hV, rfl, hfz, hnd⟩ := hW
  have hA : DataW.TrodAll enc Tryz.prog W 0 (fun _ => true) true Tryz.f3.params.toList args.toList ds p := hA0
  rw [Tryz.params3] at hA hval
  obtain ⟨rfl, rfl, rfl⟩ := trodAll_none hA
  obtain ⟨rfl, rfl⟩ := trodVars_none hV
  clear hA0 hval0
  simp only [List.append_nil] at hW'
  refine (walk W hL).mono fun e W' ⟨he, hg⟩ => ?_
  subst he
  exact ⟨_, rfl, [], [], _, [], [], [], hW', (trodAll_cons_mk (shut_bool Tryz.underlying4 _) trodAll_mk0), trodAll_mk0, rfl, World.keptBut_mono (fun _ f => f.elim) hg, fun h => by cases h⟩

theorem over : Rows.CallKnownSaid :=
  OpenClaim.holds_of_wide 3 Tryz.f3 rfl rfl rfl rfl rfl rfl rfl ⟨rfl, rfl, rfl, rfl, rfl⟩ rfl rfl rfl rfl rfl (by kernel_rfl) Tryz.func3 (by kernel_rfl)
    (of_decide_eq_true (by kernel_rfl)) (by unfold Func.isWrapper; first | (rw [if_pos (by decide +kernel)]; kernel_rfl) | (rw [if_neg (by decide +kernel)]; exact ⟨rfl, rfl⟩))
    (fun os started H enc _ => lifted os started H enc)

/-- The tied card. -/
theorem proved : Rows.CallKnownCardSaid :=
  Claim7.holds_tied_plain_at .later [] [.data, .data, .data] true (true, "c2faeb24925be1950d7456bff411347c7a4d1af70325930498476fb2a1929b0a") false
    over (fun _ h => by cases h) (by kernel_rfl) (fun _ h => by cases h) callKnown_row_tie rfl ⟨rfl, rfl⟩ (by kernel_rfl) rfl
    (fun f fn hf hfn => by
      obtain rfl : f = 3 := Option.some.inj ((show Tryz.prog.funcNamed "tallow/tallowlaw28.CallKnown" = some 3 by kernel_rfl).symm.trans hf) |>.symm
      obtain rfl : fn = Tryz.f3 := (Option.some.inj (Tryz.func3.symm.trans hfn)).symm
      exact ⟨by kernel_rfl, fun j t ht => by
        rw [Tryz.params3] at ht
        simp at ht⟩)
    (by kernel_rfl)
#print axioms proved
end Go.Proofs.YtnlbchnlbpaflaaGreatDoor.callKnown
