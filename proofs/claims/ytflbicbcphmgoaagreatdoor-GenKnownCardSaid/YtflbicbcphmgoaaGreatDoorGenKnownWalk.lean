/-
  The law GenKnown: its call returns true.
-/
import Derived.Test.YtflbicbcphmgoaaGreatDoorRows
import Derived.Test.YtflbicbcphmgoaaGreatDoorTie
import Derived.Test.YtflbicbcphmgoaaGreatDoorCards
import Derived.WalkKit
import Derived.ProofKit
import Derived.LaidMore
import Derived.LaidSub
import Derived.Shelf.Vars
import Derived.OpenShut
import Derived.Stop.Joined
import Derived.Stop.LaidErr
import Derived.SevenTiedAt
import Derived.Lib.LaidTab
import Derived.Test.YtflbicbcphmgoaaGreatDoorGenKnownRun
namespace Go.Proofs.YtflbicbcphmgoaaGreatDoor.genKnown
open Go.ChangeShapes Go.WideShapes Go.ChangeAt Go.RowKit
set_option linter.unusedVariables false
set_option linter.unusedSimpArgs false
set_option linter.deprecated false

theorem own : ownKnob Tryz.prog.godebug = none := by kernel_rfl
abbrev L : List (String × DataW Unit) := Rows.genKnownRow.laid
theorem gN1 : Tryz.prog.globalNamed "strings.asciiSpace" = some 1 := by kernel_rfl
theorem gT1 : (Tryz.prog.globals[1]?).map (·.type) = some 200 := by kernel_rfl
theorem gC1 : Tryz.prog.cellsOf 200 = 256 := by kernel_rfl
theorem gE1 : Tryz.prog.cellsOf 5 = 1 := by kernel_rfl
theorem gNs : Tryz.prog.globalNamed "strconv.ErrRange" = some 4 := by kernel_rfl
theorem gTs : (Tryz.prog.globals[4]?).map (·.type) = some 36 := by kernel_rfl
theorem star : "*" ++ "errors.errorString" = "*errors.errorString" := by decide
theorem rowS (u : TypeId) (h : Tryz.prog.typeName? 3 u = some "*errors.errorString") : u = 296 :=
  typeName_ptr_named (nm := "errors.errorString") (by rw [star]; kernel_rfl) (by kernel_rfl) (by decide) u (by rw [star]; exact h)
theorem cSe : Tryz.prog.cellsOf 298 = 1 := by kernel_rfl
theorem cSs : Tryz.prog.cellsOf 9 = 1 := by kernel_rfl
/-- What is laid and is no handle. -/
abbrev LP : List (String × DataW Unit) := [("math/bits.deBruijn32tab", Rows.laid_math_bits_deBruijn32tab), ("math/bits.deBruijn64tab", Rows.laid_math_bits_deBruijn64tab), ("internal/strconv.uint64pow10", Rows.laid_internal_strconv_uint64pow10), ("strconv.ErrRange", Rows.laid_strconv_ErrRange), ("strconv.ErrSyntax", Rows.laid_strconv_ErrSyntax), ("unicode.White_Space", Rows.laid_unicode_White_Space), ("strings.asciiSpace", Rows.laid_strings_asciiSpace)]
theorem LP_eq : (L.filter fun x => x.2.handleName?.isNone) = LP := by kernel_rfl
theorem etN : Tryz.prog.globalNamed "errors.errorType" = some 0 := by kernel_rfl
theorem etT : (Tryz.prog.cutTypes.find? (·.1 == "internal/reflectlite.rtype")).map (·.2) = some 182 := by kernel_rfl
theorem etS : Tryz.prog.types.size = 339 := by kernel_rfl
theorem etR : ((List.range 339).filter fun t => Tryz.prog.rowNamed t [101, 114, 114, 111, 114]) = [36] := by kernel_rfl
theorem LH_eq : (L.filter fun x => x.2.handleName?.isSome) = [("errors.errorType", Rows.laid_errors_errorType)] := by kernel_rfl
/-- What the handle's variable holds. -/
theorem handle_met {W : World} (h : laidMetH Tryz.prog L W) : W.cell? ⟨0, 0, none⟩ = some (.iface 182 (.agg #[.pointer (some ⟨10, 36, none⟩)])) := by
  have h' := (laidMetH_iff.1 h).2
  rw [LH_eq] at h'
  obtain ⟨name, u, ty, e1, e2, e3, e4, e5⟩ := h' _ (List.mem_singleton.2 rfl)
  have en : name = [101, 114, 114, 111, 114] := (Option.some.inj e1).symm
  subst en
  obtain rfl := Option.some.inj (etT.symm.trans e2)
  have hm : ty ∈ (List.range 339).filter fun t => Tryz.prog.rowNamed t [101, 114, 114, 111, 114] := List.mem_filter.2 ⟨List.mem_range.2 (by rw [← etS]; exact e3), e4⟩
  rw [etR] at hm
  obtain rfl := List.mem_singleton.1 hm
  have hh : typeHandle Tryz.prog 36 = .pointer (some ⟨10, 36, none⟩) := by kernel_rfl
  rw [hh] at e5
  simpa using World.var?_cell etN e5 0
theorem size_met {W : World} (h : W.ShapedOpen Tryz.prog) : 11 ≤ W.heap.size := by
  obtain ⟨o, _, ho, _⟩ := h.2 10 (of_decide_eq_true (by kernel_rfl)) (of_decide_eq_true (by kernel_rfl))
  exact (Array.getElem?_eq_some_iff.1 ho).1
set_option maxRecDepth 100000 in
theorem tabs_met {W : World} (h : laidMetH Tryz.prog L W) {m : Int} (hm : W.cell? ⟨3, 0, none⟩ = some (.int .i64 m)) (hsize : 11 ≤ W.heap.size) : ∃ ρ, Dx.GOk 11 ρ (vars m) 12 W := by
  have hhnd := handle_met h
  have h := (laidMetH_iff.1 h).1
  rw [LP_eq] at h
  have h1 := Lib.tabIs_of_head (k := .u8) (zs := [0, 0, 0, 0, 0, 0, 0, 0, 0, 1, 1, 1, 1, 1, 0, 0, 0, 0, 0, 0, 0, 0, 0, 0, 0, 0, 0, 0, 0, 0, 0, 0, 1, 0, 0, 0, 0, 0, 0, 0, 0, 0, 0, 0, 0, 0, 0, 0, 0, 0, 0, 0, 0, 0, 0, 0, 0, 0, 0, 0, 0, 0, 0, 0, 0, 0, 0, 0, 0, 0, 0, 0, 0, 0, 0, 0, 0, 0, 0, 0, 0, 0, 0, 0, 0, 0, 0, 0, 0, 0, 0, 0, 0, 0, 0, 0, 0, 0, 0, 0, 0, 0, 0, 0, 0, 0, 0, 0, 0, 0, 0, 0, 0, 0, 0, 0, 0, 0, 0, 0, 0, 0, 0, 0, 0, 0, 0, 0, 0, 0, 0, 0, 0, 0, 0, 0, 0, 0, 0, 0, 0, 0, 0, 0, 0, 0, 0, 0, 0, 0, 0, 0, 0, 0, 0, 0, 0, 0, 0, 0, 0, 0, 0, 0, 0, 0, 0, 0, 0, 0, 0, 0, 0, 0, 0, 0, 0, 0, 0, 0, 0, 0, 0, 0, 0, 0, 0, 0, 0, 0, 0, 0, 0, 0, 0, 0, 0, 0, 0, 0, 0, 0, 0, 0, 0, 0, 0, 0, 0, 0, 0, 0, 0, 0, 0, 0, 0, 0, 0, 0, 0, 0, 0, 0, 0, 0, 0, 0, 0, 0, 0, 0, 0, 0, 0, 0, 0, 0, 0, 0, 0, 0, 0, 0, 0, 0, 0, 0, 0, 0, 0, 0, 0, 0, 0, 0]) gN1 gT1 Tryz.underlying200 Tryz.underlying5 gE1 gC1 (laidMet.tail (laidMet.tail (laidMet.tail (laidMet.tail (laidMet.tail (laidMet.tail h))))))
  have htabs : ∀ q ∈ tabs m, q.1 < 11 ∧ q.2.1 < 8 ∧ q.2.2 ≠ [] ∧ ∀ i, i < q.2.2.length → W.cell? ⟨q.1, i, none⟩ = some (.int (Dx.kindOf q.2.1) (q.2.2.getD i 0)) := fun q hq => by
    simp only [tabs, List.mem_cons, List.not_mem_nil, or_false] at hq
    rcases hq with rfl | rfl
    · exact ⟨(show (3 : Nat) < 11 by decide), (show (3 : Nat) < 8 by decide), by simp, fun i hi => by
        obtain rfl : i = 0 := by simp at hi; omega
        exact hm⟩
    · exact ⟨by decide, by decide, by decide, fun i hi => h1.cell gN1 i hi⟩
  obtain ⟨a, s, hv, hc, _, _⟩ := laid_sentinel (laidMet.tail (laidMet.tail (laidMet.tail h))) gNs gTs Tryz.underlying36 rowS Tryz.underlying296 Tryz.underlying298 rfl rfl Tryz.underlying9 cSe cSs
  obtain ⟨b, o, rfl, hb⟩ := Dx.cell_plain hc
  refine ⟨_, Dx.GOk.add (Dx.GOk.tabsI hsize (tabs m) htabs (g := 4) (t := 296) (by decide) hb (by simpa using World.var?_cell gNs hv 0)) (g := 0) (by decide) (by decide) (fun q hq => ?_) hhnd (Dx.RX.handle (nb := 10) (Dx.gRenI_key (by decide))) rfl⟩
  rcases List.mem_cons.1 hq with rfl | hq
  · show 4 < 11; omega
  obtain ⟨a, ha, rfl⟩ := List.mem_map.1 hq
  exact (htabs a ha).1
set_option maxRecDepth 100000 in
theorem below (m : Int) : ∀ q ∈ vars m, q.1 < 12 := by
  intro q hq
  rcases List.mem_cons.1 hq with rfl | hq
  · show 0 < 12; omega
  rcases List.mem_cons.1 hq with rfl | hq
  · show 4 < 12; omega
  obtain ⟨a, ha, rfl⟩ := List.mem_map.1 hq
  simp only [tabs, List.mem_cons, List.not_mem_nil, or_false] at ha
  rcases ha with rfl | rfl
  · show 3 < 12; omega
  · show 1 < 12; omega
theorem rinv (m : Int) : Dx.RInv (start m) := fun p t n op h => by
  obtain ⟨q, _, _, e⟩ := Dx.gTree_get h
  cases e
theorem len_met {W : World} (h : W.ShapedOpen Tryz.prog) : ∃ m, W.cell? ⟨3, 0, none⟩ = some (.int .i64 m) :=
  cell_of_shapedOpen_int (zero := #[.int .i64 0]) (t := 3) h (of_decide_eq_true (by kernel_rfl)) (by kernel_rfl) rfl (by kernel_rfl) (by kernel_rfl) Tryz.underlying3

/-- A row whose call is made in a world of the row's shape, in which the listed variables hold what start-up lays. -/
theorem lift {a : Assume} {C : Checked} {os : Os} {f : FuncId} {fn : Func} {s : ChangeSpec} {conds : List PathCond} {apart fresh handsOn again : Bool} {H : Type} {enc : TypeId × Value → H} {X : World → Array Value → Prop}
    (hX : ∀ (w w' : World) (args : Array Value), w.heap = w'.heap → X w args → X w' args) (own : ownKnob C.prog.godebug = none) (started : os.Started) (noInit : C.prog.inits.idxOf? f = none) (hfn : C.prog.funcs[f]? = some fn)
    (witness : ∃ (w : World) (tape : Tape) (i : Input), w.os = os ∧ (w.forCall tape i).Shaped C.prog ∧ i.vars = [] ∧ Input.okWide C.prog (w.forCall tape i) .any w.heap.size f i ∧
      ((s.pre enc C.prog fn conds apart (w.forCall tape i).memory i.args ∧ X (w.forCall tape i).memory i.args) ∧ sizedMet enc C.prog fn (OpenSpec.ofChange s) apart (w.forCall tape i).memory i.args) ∧ a.holds C.prog (lone (Frame.enter C.prog f i.args .normal) [] (w.forCall tape i)))
    (contract : ∀ (W : World) (base : Nat) (args : Array Value) (ds gs : List (DataW H)) (before : List MemPlace), (∀ (j : Nat) t v, fn.params[j]? = some t → args[j]? = some v → Value.okWide C.prog W .any base t v) →
      DataW.Whole enc C.prog fn.params.toList s.vars apart W args.toList ds gs before → X W args → W.ShapedOpen C.prog → Calls C.prog f args W fun e W' => ∃ v, e = .returned v ∧ s.post enc C.prog fn apart fresh handsOn again W args v W') :
    ReturnsInHanded a C os f .any (fun w args => (s.pre enc C.prog fn conds apart w args ∧ X w args) ∧ sizedMet enc C.prog fn (OpenSpec.ofChange s) apart w args) (s.post enc C.prog fn apart fresh handsOn again) := by
  refine returnsInHanded_of_calls own started noInit witness ?_
  intro w tape i _ hsh _ hok hpre _
  obtain ⟨_, _, _, fn', hfn', _, _, _, _, hval⟩ := hok
  obtain rfl : fn' = fn := Option.some.inj (hfn'.symm.trans hfn)
  obtain ⟨⟨⟨ds, gs, before, hw, _⟩, hx⟩, _⟩ := hpre
  refine (contract (w.forCall tape i) w.heap.size i.args ds gs before hval (DataW.Whole.of_heap (w' := w.forCall tape i) (by rfl) hw) (hX _ _ _ (by rfl) hx) hsh).mono fun e W' ⟨v, he, hp⟩ => ?_
  subst he
  exact ChangeSpec.post_blind hp

theorem walk (W : World) (h : laidMetH Tryz.prog L W) (hsh : W.ShapedOpen Tryz.prog) : Calls Tryz.prog 3 #[] W fun e w' => e = .returned (.bool true) ∧ W.keptBut w' (fun _ => False) :=
  (len_met hsh).elim fun m hm => (tabs_met h hm (size_met hsh)).elim fun _ hg => (Dx.K.holdsG_ok (rinv m) (runs m)).elim fun _ hr => Dx.closed_callsG table (Dx.gHeap_ro (below m)) hr (Dx.GOk.rel hg)

theorem door_met (os : Os) (args : Array Value) : laidMetH Tryz.prog L ((World.doorLaid Tryz.prog 4000 os).forCall (fun _ _ => 0) ⟨#[], args, []⟩).memory :=
  laidMetH_of_parts3 (fuel := 8) (laidMet_of_run' 8 (by kernel_rfl) (by kernel_rfl)) (by kernel_rfl) (by kernel_rfl)

set_option maxRecDepth 100000 in
theorem lifted (os : Os) (started : os.Started) (H : Type) (enc : TypeId × Value → H) :
    ReturnsInHanded {} Tryz.checked os 3 .any (fun w args => (Rows.genKnownSpec.pre enc Tryz.prog Tryz.f3 [] false w args ∧ laidMetH Tryz.prog L w) ∧ sizedMet enc Tryz.prog Tryz.f3 (OpenSpec.ofChange Rows.genKnownSpec) false w args)
      (Rows.genKnownSpec.post enc Tryz.prog Tryz.f3 false true false false) := by
  refine lift (C := Tryz.checked) (X := fun w _ => laidMetH Tryz.prog L w) (fun _ _ _ hh h => h.of_heap hh) own started (by kernel_rfl) Tryz.func3
    (ChangeSpec.witness_shaped (enc := enc) (C := Tryz.checked) (os := os) (X := fun w _ => laidMetH Tryz.prog L w) false (World.doorLaid Tryz.prog 4000 os) #[] 8 rfl (World.shaped_of_RefB (by kernel_rfl) (by kernel_rfl)) (by kernel_rfl) (by kernel_rfl) (by kernel_rfl) (door_met os _)) ?_
  intro W base args ds gs before hval0 hW hL hsh
  have hval : ∀ (j : Nat) t v, Tryz.f3.params[j]? = some t → args[j]? = some v → Value.okWide Tryz.prog W .any base t v := hval0
  have hW' := hW
  obtain ⟨p, q, hA0, hV, rfl, hfz, hnd⟩ := hW
  have hA : DataW.TrodAll enc Tryz.prog W 0 (fun _ => true) true Tryz.f3.params.toList args.toList ds p := hA0
  rw [Tryz.params3] at hA hval
  obtain ⟨rfl, rfl, rfl⟩ := trodAll_none hA
  obtain ⟨rfl, rfl⟩ := trodVars_none hV
  clear hA0 hval0
  simp only [List.append_nil] at hW'
  refine (walk W hL hsh).mono fun e W' ⟨he, hg⟩ => ?_
  subst he
  exact ⟨_, rfl, [], [], _, [], [], [], hW', (trodAll_cons_mk (shut_bool Tryz.underlying4 _) trodAll_mk0), trodAll_mk0, rfl, World.keptBut_mono (fun _ f => f.elim) hg, fun h => by cases h⟩

end Go.Proofs.YtflbicbcphmgoaaGreatDoor.genKnown
