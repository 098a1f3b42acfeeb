/-
  Calls, and deferred calls: what a function does where it was deferred; how a function leaves.
-/
import Derived.Test.YtpmfhinbmnaomaaGreatDoorDxCode
set_option linter.unusedSimpArgs false
set_option linter.unusedVariables false
set_option linter.unusedSectionVars false
namespace Go.Dx

section
variable {P : Program} {C : Ctx} {ρ : Ren} {fr : Tr AV} {a : Act} {H H' : Heap} {w : World}

/-- A deferred call at a fuel: the mode of what it left stands. -/
theorem callP_of_code {tbl : Nat → Option CFunc} {ng n : Nat} (hT : TblOk P ng tbl) (hc : CodeOk P tbl ng n) {f : Nat} {cf : CFunc} {as : AV} {r : CR} (h1 : tbl f = some cf) (hk : cf.konst = none) (hp : cf.body.plain = true)
    (hev : (match enterFr as 0 .leaf with | none => none | some fr => finish cf (run tbl n cf.body fr H)) = some (r, H')) (hH : HRel P ng ρ H w) {args : Array Value} (hx : RX ρ as args.toList) (u : FrameMode) :
    CallsDIn (fz none) 0 P f args u w fun e u' w' => u' = u ∧ ∃ ρ', HRel P ng ρ' H' w' ∧ Step ρ H w ρ' H' w' ∧ EndRel ρ' r e := by
  have hfn := hT.fn f cf h1
  unfold FnOk at hfn
  rw [hk] at hfn
  simp only at hfn
  split at hev
  · cases hev
  rename_i fr h2
  have g2 := hev
  obtain ⟨fn, C, k1, k2, k3, k4, k5, k6⟩ := hfn
  obtain ⟨c, cc, rs, hb, hcc, hrs, rfl⟩ := k6
  · skip
    · skip
      simp only at g2 hp
      have hF : FRel C ρ fr (args ++ Array.replicate (fn.ntmps - args.size) undef) := by rw [← k5]; exact enter_ok h2 hx
      have main : ∀ q, run tbl n cc fr H = some q → c.wpIn (fz none) 0 P (Post (true, false) P C ρ H w [] (dl fr) q) { tmps := args ++ Array.replicate (fn.ntmps - args.size) undef, defers := [] } w :=
        fun q hq => hcc.ok tbl n (by rw [k4]; exact hc) none (true, false) (fun h => by cases h) fr H q ⟨fun _ => hp, fun h => by cases h⟩ hq ρ { tmps := args ++ Array.replicate (fn.ntmps - args.size) undef, defers := [] } w hF (by rw [k4]; exact hH)
      refine callsDIn_of_wp (n := 0) (F := fz none) k1 hb trivial ?_
      have fin : ∀ (ex : Ex) fr1 H1, (ex = .normal ∨ ex = .ret) → run tbl n cc fr H = some (ex, fr1, H1) → (resultsA fr1 H1 rs).map (fun v => (CR.ret v, H1)) = some (r, H') →
          c.wpIn (fz none) 0 P (bodyPost P fn fun e w' => ∃ ρ', HRel P ng ρ' H' w' ∧ Step ρ H w ρ' H' w' ∧ EndRel ρ' r e) { tmps := args ++ Array.replicate (fn.ntmps - args.size) undef, defers := [] } w := by
        intro ex fr1 H1 hex hq hres
        obtain ⟨v, hv, e⟩ := Option.map_eq_some_iff.1 hres
        cases e
        refine wpIn_mono (main _ hq) ?_
        intro e a' w' ⟨ρ', p1, p2, p3, p4, p5⟩
        have done : a'.defers = [] ∧ ∃ v', (results fn a'.tmps).run P w' = .ok v' w' ∧ ∃ ρ', HRel P ng ρ' H' w' ∧ Step ρ H w ρ' H' w' ∧ EndRel ρ' (.ret v) (.returned v') := by
          obtain ⟨rs', N, e0, _, e1, _⟩ := p4
          rw [e0 rfl] at e1
          obtain ⟨x, hx1, hx2⟩ := results_ok (P := P) p1 p2 hrs hv
          exact ⟨by simpa using e1, x, hx1, ρ', k4 ▸ p2, p3, hx2⟩
        rcases hex with rfl | rfl
        · cases e with
          | normal => exact done
          | _ => exact p5.elim
        · cases e with
          | ret => exact done
          | _ => exact p5.elim
      cases hq : run tbl n cc fr H with
      | none => rw [hq] at g2; cases g2
      | some q =>
        obtain ⟨ex, fr1, H1⟩ := q
        rw [hq] at g2
        cases ex with
        | normal => exact fin _ fr1 H1 (.inl rfl) hq g2
        | ret => exact fin _ fr1 H1 (.inr rfl) hq g2
        | pan v =>
          cases g2
          refine wpIn_mono (main _ hq) ?_
          intro e a' w' ⟨ρ', p1, p2, p3, p4, p5⟩
          cases e with
          | panic ch =>
            obtain ⟨x, rfl, hx⟩ := p5
            obtain ⟨rs', N, e0, _, e1, _⟩ := p4
            rw [e0 rfl] at e1
            exact ⟨by simpa using e1, ρ', k4 ▸ p2, p3, x, rfl, hx⟩
          | _ => exact p5.elim
        | exit i => cases g2
        | goto l => cases g2


theorem noDef_of_none {c : CCode} (h : (if c.noDef then none else some Kn.dfr) = none) : c.noDef = true := by
  cases hc : c.noDef with
  | true => rfl
  | false => rw [hc] at h; cases h

/-- A deferred call, by what the semantics says of it. -/
theorem callD_ok {tbl : Nat → Option CFunc} {ng n : Nat} (hT : TblOk P ng tbl) (hc : CodeOk P tbl ng n) (hs : CodeSOk P tbl ng n) {f : Nat} {as m m' : AV} (hev : doCallD tbl (run tbl n) f as m H = some (m', H')) :
    (∃ fn, P.funcs[f]? = some fn ∧ fn.body.isSome = true ∧ fn.name ≠ "runtime.NumGoroutine") ∧ ∀ ρ w (args : Array Value) u, HRel P ng ρ H w → RX ρ as args.toList → MRel ρ m u →
      CallsDIn (fz none) 0 P f args u w fun e u' w' => ∃ v, e = .returned v ∧ ∃ ρ', HRel P ng ρ' H' w' ∧ Step ρ H w ρ' H' w' ∧ MRel ρ' m' u' := by
  unfold doCallD at hev
  split at hev
  · cases hev
  rename_i cf h1
  have hfn := hT.fn f cf h1
  unfold FnOk at hfn
  split at hev
  · rename_i hk
    rw [hk] at hfn
    simp only at hfn
    obtain ⟨fn, C, k1, k2, k3, k4, k5, k6⟩ := hfn
    refine ⟨⟨fn, k1, k2, k3⟩, ?_⟩
    intro ρ w args u hH hx hm
    split at hev
    · rename_i hp
      split at hev
      · cases hev
      rename_i fr h2
      split at hev
      · rename_i v H1 hfin
        cases hev
        refine CallsDIn.mono (callP_of_code hT hc h1 hk hp (r := .ret v) (H' := H') (by rw [h2]; exact hfin) hH hx u) ?_
        intro e u' w' ⟨hu', ρ', q1, q2, q3⟩
        subst hu'
        cases e with
        | returned x => exact ⟨x, rfl, ρ', q1, q2, hm.mono q2.ext⟩
        | _ => exact q3.elim
      · cases hev
    · cases hev
  · rename_i hk
    rw [hk] at hfn
    simp only at hfn
    obtain ⟨fn, C, k1, k2, k3, k4, k5, k6⟩ := hfn
    refine ⟨⟨fn, k1, k2, k3⟩, ?_⟩
    intro ρ w args u hH hx hm
    split at hev
    · cases hev
    rename_i fr h2
    unfold funcS at k6
    split at k6
    · cases k6
    · rename_i c hb
      split at k6
      · rename_i cc rs hcc hrs
        cases k6
        simp only at hev
        have hF0 : FRel C ρ fr (args ++ Array.replicate (fn.ntmps - args.size) undef) := by rw [← k5]; exact enter_ok h2 hx
        have hF : FRel C ρ (fr.set .h m) (args ++ Array.replicate (fn.ntmps - args.size) undef) := hF0.setH
        have main : ∀ q, run tbl n cc (fr.set .h m) H = some q → ∀ (c₀ : Frame) (cs : List Frame), c₀.mode = u → c.wpSIn (fz none) 0 P (PostS P C ρ H w [] c₀ cs q) { tmps := args ++ Array.replicate (fn.ntmps - args.size) undef, defers := [] } (c₀ :: cs) w := by
          intro q hq c₀ cs hu
          have := hs C c cc (fr.set .h m) H q hcc k4 hq ρ { tmps := args ++ Array.replicate (fn.ntmps - args.size) undef, defers := [] } w hF (by rw [k4]; exact hH) c₀ cs u m (Tr.get_set_same _ _ _) hm
          have e : ({ c₀ with mode := u } : Frame) = c₀ := by subst hu; rfl
          rw [e] at this
          exact this
        refine callsDIn_of_wpSIn (n := 0) (F := fz none) k1 hb trivial ?_
        intro c₀ cs hu
        have fin : ∀ ex fr1 H1 v1, (ex = .normal ∨ ex = .ret) → run tbl n cc (fr.set .h m) H = some (ex, fr1, H1) → resultsA fr1 H1 rs = some v1 → fr1.get .h = some m' → H1 = H' →
            c.wpSIn (fz none) 0 P (bodyPostS P fn c₀ cs fun e u' w' => ∃ v, e = .returned v ∧ ∃ ρ', HRel P ng ρ' H' w' ∧ Step ρ H w ρ' H' w' ∧ MRel ρ' m' u') { tmps := args ++ Array.replicate (fn.ntmps - args.size) undef, defers := [] } (c₀ :: cs) w := by
          intro ex fr1 H1 v1 hex hq hres hm1 e1
          subst e1
          refine wpSIn_mono (main _ hq c₀ cs hu) ?_
          intro e a' cs' w' ⟨ρ', p1, p2, p3, p4, ⟨m2, u2, p5, p6, p7⟩, p8⟩
          have hmm : m2 = m' := by have : some m2 = some m' := p5.symm.trans hm1; cases this; rfl
          subst hmm
          obtain ⟨x, hx1, hx2⟩ := results_ok (P := P) p1 p2 hrs hres
          have done : a'.defers = [] ∧ ∃ u', cs' = { c₀ with mode := u' } :: cs ∧ ∃ v, (results fn a'.tmps).run P w' = .ok v w' ∧ ∃ v_1, Ending.returned v = .returned v_1 ∧ ∃ ρ', HRel P ng ρ' H1 w' ∧ Step ρ H w ρ' H1 w' ∧ MRel ρ' m2 u' :=
            ⟨p4, u2, p7, x, hx1, x, rfl, ρ', k4 ▸ p2, p3, p6⟩
          rcases hex with rfl | rfl
          · cases e with
            | normal => exact done
            | _ => exact p8.elim
          · cases e with
            | ret => exact done
            | _ => exact p8.elim
        split at hev
        · rename_i fr1 H1 hq
          split at hev
          · rename_i v1 m1 hr1 hm1
            cases hev
            exact fin _ _ _ _ (.inl rfl) hq hr1 hm1 rfl
          · cases hev
        · rename_i fr1 H1 hq
          split at hev
          · rename_i v1 m1 hr1 hm1
            cases hev
            exact fin _ _ _ _ (.inr rfl) hq hr1 hm1 rfl
          · cases hev
        · cases hev
      · cases k6
  · cases hev

theorem Defs.off {ρ : Ren} {H : Heap} {w0 w : World} {r : Nat} {ds : List Deferred} {L : AV} (h : Defs ρ H w0 w ds L) (hn : r ∉ ds.filterMap markOf) : Defs ρ H w0 (w.putObj r (.deferred none)) ds L := by
  induction h with
  | nil => exact .nil
  | mark h _ ih =>
    simp only [List.filterMap_cons, markOf, markD, List.mem_cons, not_or] at hn
    refine .mark ⟨h.1, ?_, h.2.2⟩ (ih hn.2)
    rw [World.putObj_heap_other (fun e => hn.1 e.symm)]
    exact h.2.1
  | call h _ ih => exact .call h (ih (by simpa [markOf] using hn))

/-- What was thrown, at a frame that leaves. -/
def M2 (ρ : Ren) (m : AV) (u : FrameMode) : Prop := (m = .niliface ∧ u = .returning) ∨ ∃ t v x, m = .iface t v ∧ u = .panicking [{ v := x, recovered := false }] ∧ RX ρ (.iface t v) [x]
theorem M2.of {m : AV} {u : FrameMode} (h : MRel ρ m u) : M2 ρ m (settle u) := by
  cases m with
  | niliface =>
    rcases h with rfl | ⟨x, rfl⟩
    · exact .inl ⟨rfl, rfl⟩
    · exact .inl ⟨rfl, rfl⟩
  | iface t v => obtain ⟨x, rfl, hx⟩ := h; exact .inr ⟨t, v, x, rfl, rfl, hx⟩
  | _ => exact h.elim
theorem M2.rel {m : AV} {u : FrameMode} (h : M2 ρ m u) : MRel ρ m u := by
  rcases h with ⟨rfl, rfl⟩ | ⟨t, v, x, rfl, rfl, hx⟩
  · exact .inl rfl
  · exact ⟨x, rfl, hx⟩
theorem M2.run {m : AV} {u : FrameMode} (h : M2 ρ m u) : u ≠ .run := by
  rcases h with ⟨rfl, rfl⟩ | ⟨t, v, x, rfl, rfl, hx⟩ <;> simp

theorem leave_defs {tbl : Nat → Option CFunc} {ng n : Nat} (hT : TblOk P ng tbl) (hc : CodeOk P tbl ng n) (hs : CodeSOk P tbl ng n) {fn : Func} {tmps : Array Value} {R : Ending → World → Prop} {rs : List CRes} {fr : Tr AV} {r : CR} {ρ0 : Ren} {H0 H2 : Heap} {w0 : World} :
    ∀ (ds : List Deferred) (L m : AV) (u : FrameMode) (ρ : Ren) (H : Heap) (w : World), Defs ρ H w0 w ds L → (ds.filterMap markOf).Nodup → leave (doCallD tbl (run tbl n)) rs fr L m H = some (r, H2) → M2 ρ m u → HRel P ng ρ H w → Step ρ0 H0 w0 ρ H w →
      (∀ ρ2 w2 m2 u2 H3, Ext ρ ρ2 → HRel P ng ρ2 H3 w2 → Step ρ0 H0 w0 ρ2 H3 w2 → M2 ρ2 m2 u2 → leave (doCallD tbl (run tbl n)) rs fr .nil m2 H3 = some (r, H2) → LeavesInM (fz none) 0 P fn tmps R [] u2 w2) → LeavesInM (fz none) 0 P fn tmps R ds u w := by
  intro ds
  induction ds with
  | nil =>
    intro L m u ρ H w hd _ hr hm hH hS fin
    cases hd
    exact fin ρ w m u H (Ext.refl ρ) hH hS hm hr
  | cons d ds ih =>
    intro L m u ρ H w hd hn hr hm hH hS fin
    cases hd with
    | @mark r' _ _ hk hd =>
      simp only [List.filterMap_cons, markOf, markD, List.nodup_cons] at hn
      refine ⟨hm.run, .inl ⟨r', w.putObj r' (.deferred none), rfl, run_takeDeferred hk.2.1, ?_⟩⟩
      exact ih L m u ρ H _ (hd.off hn.1) hn.2 hr hm (hH.off hk.2.2) (hS.off hk.1) fin
    | @call f cap dargs as _ L' hx hd =>
      have hn : (ds.filterMap markOf).Nodup := hn
      simp only [leave] at hr
      split at hr
      · rename_i m' H1 hcall
        obtain ⟨⟨fnr, k1, k2, k3⟩, hcd⟩ := callD_ok hT hc hs hcall
        refine ⟨hm.run, .inr ⟨(fun h => by cases h), .func f, cap, f, dargs ++ cap, rfl, run_callFunc k1 k2 k3 w, fun _ _ => trivial, ?_⟩⟩
        refine CallsDIn.mono (hcd ρ w _ u hH hx hm.rel) ?_
        intro e u' w' ⟨v, he, ρ', q1, q2, q3⟩
        subst he
        show LeavesInM (fz none) 0 P fn tmps R ds (settle u') w'
        exact ih L' m' (settle u') ρ' H1 w' (hd.step q2) hn hr (M2.of q3) q1 (hS.trans q2) fun ρ2 w2 m2 u2 H3 e1 e2 e3 e4 e5 => fin ρ2 w2 m2 u2 H3 (q2.ext.trans e1) e2 e3 e4 e5
      · cases hr

/-- Marks alone. -/
theorem leave_marks {ng : Nat} {ρ0 : Ren} {H0 : Heap} {w0 : World} {fn : Func} {tmps : Array Value} {R : Ending → World → Prop} {u : FrameMode} {ds : List Deferred} (hd : Defs ρ H w0 w ds .nil) (hn : (ds.filterMap markOf).Nodup) (hH : HRel P ng ρ H w) (hS : Step ρ0 H0 w0 ρ H w) (hu : u ≠ .run)
    (fin : ∀ w1, HRel P ng ρ H w1 → Step ρ0 H0 w0 ρ H w1 → LeavesInM (fz none) 0 P fn tmps R [] u w1) : LeavesInM (fz none) 0 P fn tmps R ds u w := by
  induction ds generalizing w with
  | nil => exact fin w hH hS
  | cons d ds ih =>
    cases hd with
    | @mark r' _ _ hk hd =>
      simp only [List.filterMap_cons, markOf, markD, List.nodup_cons] at hn
      exact ⟨hu, .inl ⟨r', w.putObj r' (.deferred none), rfl, run_takeDeferred hk.2.1, ih (hd.off hn.1) hn.2 (hH.off hk.2.2) (hS.off hk.1)⟩⟩

/-- A function that defers. -/
theorem call_dfr {tbl : Nat → Option CFunc} {ng n : Nat} (hT : TblOk P ng tbl) (hc : CodeOk P tbl ng n) (hs : CodeSOk P tbl ng n) {f : Nat} {cf : CFunc} {fn : Func} {C : Ctx} {as : AV} {r : CR} (k1 : P.funcs[f]? = some fn) (k2 : fn.body.isSome = true) (k4 : C.ng = ng) (k5 : C.n = fn.ntmps) (k6 : FuncO P C fn cf)
    {fr : Tr AV} (h2 : enterFr as 0 .leaf = some fr) (hev : finishD (doCallD tbl (run tbl n)) cf (run tbl n cf.body fr H) = some (r, H')) (hH : HRel P ng ρ H w) {args : Array Value} (hx : RX ρ as args.toList) :
    Calls P f args w fun e w' => ∃ ρ', HRel P ng ρ' H' w' ∧ Step ρ H w ρ' H' w' ∧ EndRel ρ' r e := by
  obtain ⟨c, cc, rs, hb, hcc, hrs, rfl⟩ := k6
  · skip
    · skip
      refine callsIn_fz.1 (callsIn_of_wp_marks (n := 0) (F := fz none) k1 hb trivial ?_)
      simp only at hev
      have hF : FRel C ρ fr (args ++ Array.replicate (fn.ntmps - args.size) undef) := by rw [← k5]; exact enter_ok h2 hx
      have hd0 : dl fr = .nil := by
        unfold dl
        cases hg : fr.get .h with
        | none => rfl
        | some v => have := enter_h h2; rw [Tr.get_leaf] at this; rw [this] at hg; cases hg
      have main : ∀ q, run tbl n cc fr H = some q → c.wpIn (fz none) 0 P (Post (false, false) P C ρ H w [] (dl fr) q) { tmps := args ++ Array.replicate (fn.ntmps - args.size) undef, defers := [] } w :=
        fun q hq => hcc.ok tbl n (by rw [k4]; exact hc) none (false, false) (fun h => by cases h) fr H q (Fits.any _) hq ρ { tmps := args ++ Array.replicate (fn.ntmps - args.size) undef, defers := [] } w hF (by rw [k4]; exact hH)
      -- on its way out
      have out : ∀ (ρ1 : Ren) fr1 H1 (a' : Act) w1 m u, FRel C ρ1 fr1 a'.tmps → HRel P C.ng ρ1 H1 w1 → Step ρ H w ρ1 H1 w1 → Marks (false, false) w ρ1 H1 w1 [] (dl fr) a'.defers (dl fr1) → M2 ρ1 m u → leave (doCallD tbl (run tbl n)) rs fr1 ((fr1.get .h).getD .nil) m H1 = some (r, H') →
          LeavesInM (fz none) 0 P fn a'.tmps (fun e w' => ∃ ρ', HRel P ng ρ' H' w' ∧ Step ρ H w ρ' H' w' ∧ EndRel ρ' r e) a'.defers u w1 := by
        intro ρ1 fr1 H1 a' w1 m u p1 p2 p3 p4 hm hl
        obtain ⟨es, N, _, _, e1, e2, e3, e4⟩ := p4
        rw [e1, List.append_nil]
        have e2 : dl fr1 = N := by rw [e2, hd0]; exact e3.app_nil
        have hl : leave (doCallD tbl (run tbl n)) rs fr1 N m H1 = some (r, H') := by rw [← e2]; exact hl
        refine leave_defs hT hc hs es N m u ρ1 H1 w1 e3 e4 hl hm (k4 ▸ p2) p3 ?_
        intro ρ2 w2 m2 u2 H3 g1 g2 g3 g4 g5
        simp only [leave] at g5
        rcases g4 with ⟨rfl, rfl⟩ | ⟨t, v, x, rfl, rfl, hx2⟩
        · obtain ⟨v, hv, e⟩ := Option.map_eq_some_iff.1 g5
          cases e
          obtain ⟨x, hx1, hx2⟩ := results_ok (P := P) (p1.mono g1) (by rw [k4]; exact g2) hrs hv
          exact ⟨x, hx1, ρ2, g2, g3, hx2⟩
        · cases g5
          exact ⟨ρ2, g2, g3, x, rfl, hx2⟩
      cases hq : run tbl n cc fr H with
      | none => rw [hq] at hev; cases hev
      | some q =>
        obtain ⟨ex, fr1, H1⟩ := q
        rw [hq] at hev
        cases ex with
        | normal =>
          refine wpIn_mono (main _ hq) ?_
          intro e a' w' ⟨ρ', p1, p2, p3, p4, p5⟩
          cases e with
          | normal => exact out ρ' fr1 H1 a' w' _ _ p1 p2 p3 p4 (.inl ⟨rfl, rfl⟩) hev
          | _ => exact p5.elim
        | ret =>
          refine wpIn_mono (main _ hq) ?_
          intro e a' w' ⟨ρ', p1, p2, p3, p4, p5⟩
          cases e with
          | ret => exact out ρ' fr1 H1 a' w' _ _ p1 p2 p3 p4 (.inl ⟨rfl, rfl⟩) hev
          | _ => exact p5.elim
        | pan v =>
          refine wpIn_mono (main _ hq) ?_
          intro e a' w' ⟨ρ', p1, p2, p3, p4, p5⟩
          cases e with
          | panic ch =>
            obtain ⟨x, rfl, hx⟩ := p5
            simp only [finishD] at hev
            split at hev
            · exact out ρ' fr1 H1 a' w' _ _ p1 p2 p3 p4 (.inr ⟨_, _, x, rfl, rfl, hx⟩) hev
            · cases hev
          | _ => exact p5.elim
        | exit i => cases hev
        | goto l => cases hev

/-- Calls at a fuel, by code at that fuel. -/
theorem call_of_code {tbl : Nat → Option CFunc} {ng n : Nat} (hT : TblOk P ng tbl) (hc : CodeOk P tbl ng n) (hs : CodeSOk P tbl ng n) : CallOk P ng (doCall tbl (run tbl n)) := by
  intro f as H r H' hev
  unfold doCall at hev
  split at hev
  · cases hev
  rename_i cf h1
  have hfn := hT.fn f cf h1
  unfold FnOk at hfn
  split at hev
  · rename_i v hk
    rw [hk] at hfn
    simp only at hfn
    obtain ⟨hex, x, hx0, hcall⟩ := hfn
    refine ⟨hex, ?_⟩
    split at hev
    · cases hev
      intro ρ w args hH hx hl
      have hargs : args = #[] := by have : args.toList = [] := hx; cases args; simp_all
      subst hargs
      refine Calls.mono (hcall w) ?_
      intro e w' ⟨he, e1, e2, e3, e4, e5⟩
      subst he
      refine ⟨ρ, ⟨fun p o L h1 h2 h3 => (hH.objs p o L h1 h2 h3).same (e5 _ (hH.bound p L h3)), hH.inj, fun p L hp => Nat.lt_of_lt_of_le (hH.bound p L hp) e4, hH.fresh, hH.globals, hH.wf, hH.loops⟩,
        ⟨Ext.refl ρ, e1, e2, e3, e4, fun b hb _ => e5 b hb, fun p L h1 h2 => .inr ⟨p, L, h1, h2, rfl⟩, Nat.le_refl _, fun p L h1 h2 => (by rw [h1] at h2; cases h2), fun _ _ h => h, fun _ _ _ h => ⟨h, fun L _ hb => e5 _ hb⟩⟩, hx0 ρ⟩
    · cases hev
  · rename_i g hk
    rw [hk] at hfn
    simp only at hfn
    obtain ⟨hex, hcall⟩ := hfn
    refine ⟨hex, ?_⟩
    split at hev
    · rename_i v hg
      cases hev
      intro ρ w args hH hx hl
      refine Calls.mono (hcall as v H hg ρ w args hH hx hl) ?_
      intro e w' ⟨x, he, hx0, e1, e2, e3, e4, e5⟩
      subst he
      refine ⟨ρ, ⟨fun p o L h1 h2 h3 => (hH.objs p o L h1 h2 h3).same (e5 _ (hH.bound p L h3)), hH.inj, fun p L hp => Nat.lt_of_lt_of_le (hH.bound p L hp) e4, hH.fresh, hH.globals, hH.wf, hH.loops⟩,
        ⟨Ext.refl ρ, e1, e2, e3, e4, fun b hb _ => e5 b hb, fun p L h1 h2 => .inr ⟨p, L, h1, h2, rfl⟩, Nat.le_refl _, fun p L h1 h2 => (by rw [h1] at h2; cases h2), fun _ _ h => h, fun _ _ _ h => ⟨h, fun L _ hb => e5 _ hb⟩⟩, hx0⟩
    · cases hev
  · rename_i hk
    rw [hk] at hfn
    simp only at hfn
    obtain ⟨hex, hcall⟩ := hfn
    refine ⟨hex, ?_⟩
    split at hev
    · rename_i v H2 hg
      cases hev
      intro ρ w args hH hx hl
      refine Calls.mono (hcall as v H H' hg ρ w args hH hx hl) ?_
      intro e w' ⟨x, ρ', he, hx0, h1, h2⟩
      subst he
      exact ⟨ρ', h1, h2, hx0⟩
    · cases hev
  · rename_i hk
    rw [hk] at hfn
    simp only at hfn
    obtain ⟨fn, C, k1, k2, k3, k4, k5, k6⟩ := hfn
    refine ⟨⟨fn, k1, k2, k3⟩, ?_⟩
    intro ρ w args hH hx hl
    split at hev
    · cases hev
    rename_i fr h2
    exact call_dfr hT hc hs k1 k2 k4 k5 k6 h2 hev hH hx
  · cases hev
  rename_i hk
  rw [hk] at hfn
  simp only at hfn
  split at hev
  · cases hev
  rename_i fr h2
  have g2 := hev
  obtain ⟨fn, C, k1, k2, k3, k4, k5, k6⟩ := hfn
  refine ⟨⟨fn, k1, k2, k3⟩, ?_⟩
  intro ρ w args hH hx hl
  obtain ⟨c, cc, rs, hb, hcc, hrs, rfl⟩ := k6
  · skip
    · skip
      refine callsIn_fz.1 (callsIn_of_wp_marks (n := 0) (F := fz none) k1 hb trivial ?_)
      simp only at g2
      have hF : FRel C ρ fr (args ++ Array.replicate (fn.ntmps - args.size) undef) := by rw [← k5]; exact enter_ok h2 hx
      have main : ∀ q, run tbl n cc fr H = some q → c.wpIn (fz none) 0 P (Post (false, true) P C ρ H w [] (dl fr) q) { tmps := args ++ Array.replicate (fn.ntmps - args.size) undef, defers := [] } w :=
        fun q hq => hcc.ok tbl n (by rw [k4]; exact hc) none (false, true) (fun h => by cases h) fr H q ⟨fun h => (by cases h), fun _ => noDef_of_none hk⟩ hq ρ { tmps := args ++ Array.replicate (fn.ntmps - args.size) undef, defers := [] } w hF (by rw [k4]; exact hH)
      have fin : ∀ (ex : Ex) fr1 H1, (ex = .normal ∨ ex = .ret) → run tbl n cc fr H = some (ex, fr1, H1) → (resultsA fr1 H1 rs).map (fun v => (CR.ret v, H1)) = some (r, H') →
          c.wpIn (fz none) 0 P (bodyPostM (fz none) 0 P fn fun e w' => ∃ ρ', HRel P ng ρ' H' w' ∧ Step ρ H w ρ' H' w' ∧ EndRel ρ' r e) { tmps := args ++ Array.replicate (fn.ntmps - args.size) undef, defers := [] } w := by
        intro ex fr1 H1 hex hq hres
        obtain ⟨v, hv, e⟩ := Option.map_eq_some_iff.1 hres
        cases e
        refine wpIn_mono (main _ hq) ?_
        intro e a' w' ⟨ρ', p1, p2, p3, p4, p5⟩
        have done : LeavesInM (fz none) 0 P fn a'.tmps (fun e w' => ∃ ρ', HRel P ng ρ' H' w' ∧ Step ρ H w ρ' H' w' ∧ EndRel ρ' (.ret v) e) a'.defers .returning w' := by
          obtain ⟨es, N, _, e0, e1, _, e3, e4⟩ := p4
          rw [e1, List.append_nil]
          rw [e0 rfl] at e3
          refine leave_marks e3 e4 (k4 ▸ p2) p3 (by simp) ?_
          intro w1 hH1 hS1
          obtain ⟨x, hx1, hx2⟩ := results_ok (P := P) p1 (by rw [k4]; exact hH1) hrs hv
          exact ⟨x, hx1, ρ', hH1, hS1, hx2⟩
        rcases hex with rfl | rfl
        · cases e with
          | normal => exact done
          | _ => exact p5.elim
        · cases e with
          | ret => exact done
          | _ => exact p5.elim
      cases hq : run tbl n cc fr H with
      | none => rw [hq] at g2; cases g2
      | some q =>
        obtain ⟨ex, fr1, H1⟩ := q
        rw [hq] at g2
        cases ex with
        | normal => exact fin _ fr1 H1 (.inl rfl) hq g2
        | ret => exact fin _ fr1 H1 (.inr rfl) hq g2
        | pan v =>
          cases g2
          refine wpIn_mono (main _ hq) ?_
          intro e a' w' ⟨ρ', p1, p2, p3, p4, p5⟩
          cases e with
          | panic ch =>
            obtain ⟨x, rfl, hx⟩ := p5
            show LeavesInM (fz none) 0 P fn a'.tmps _ a'.defers (.panicking _) w'
            obtain ⟨es, N, _, e0, e1, _, e3, e4⟩ := p4
            rw [e1, List.append_nil]
            rw [e0 rfl] at e3
            refine leave_marks e3 e4 (k4 ▸ p2) p3 (by simp) ?_
            intro w1 hH1 hS1
            exact ⟨ρ', hH1, hS1, x, rfl, hx⟩
          | _ => exact p5.elim
        | exit i => cases g2
        | goto l => cases g2


end
end Go.Dx
