/-
  Code and calls: what the semantics says is what the model does.
-/
import Derived.Test.YtpmfhinbmnaomaaGreatDoorDxDef
set_option linter.unusedSimpArgs false
set_option linter.unusedVariables false
set_option linter.unusedSectionVars false
namespace Go.Dx

section
variable {pl : PL}
variable {P : Program} {C : Ctx} {ρ : Ren} {fr : Tr AV} {a : Act} {H H' : Heap} {w : World}

/-! Rounds. -/
theorem canonF_get {fr : Tr AV} : ∀ {n : Nat} {q : Pos} {v : AV}, (canonF fr n).get q = some v → fr.get q = some v := by
  intro n
  induction n with
  | zero => intro q v h; unfold canonF at h; rw [Tr.get_leaf] at h; cases h
  | succ n ih =>
    intro q v h
    unfold canonF at h
    split at h
    · rename_i u hu
      rw [Tr.get_set] at h
      split at h
      · rename_i e; cases h; rw [e]; exact hu
      · exact ih h
    · exact ih h
theorem setParams_ok : ∀ {ps : List Tmp} {as : AV} {fr fr1 : Tr AV} {tm : Array Value} {xs : List Value}, setParams ps as fr = some fr1 → RX ρ as xs → (∀ t ∈ ps, t < C.n) → FRel C ρ fr tm →
    xs.length = ps.length ∧ FRel C ρ fr1 ((ps.zip xs).foldl (fun tm x => tm.setIfInBounds x.1 x.2) tm) := by
  intro ps
  induction ps with
  | nil =>
    intro as fr fr1 tm xs h hx _ hF
    cases as <;> simp only [setParams, reduceCtorEq] at h
    cases h
    cases hx
    exact ⟨rfl, hF⟩
  | cons t ts ih =>
    intro as fr fr1 tm xs h hx hlt hF
    cases as <;> simp only [setParams, reduceCtorEq] at h
    rename_i v r
    obtain ⟨x, ys, rfl, h1, h2⟩ := hx
    have ht := hlt t (List.mem_cons_self ..)
    have hF' : FRel C ρ (fr.set (key (t + 1)) v) (tm.setIfInBounds t x) := by
      refine ⟨by rw [Array.size_setIfInBounds]; exact hF.size, fun q u hq hu => ?_⟩
      rw [Tr.get_set] at hu
      by_cases e : q = t
      · subst e
        rw [if_pos rfl] at hu
        cases hu
        have := hF.size
        exact ⟨x, by rw [Array.getElem?_setIfInBounds_self_of_lt (Nat.lt_of_lt_of_le ht hF.size)], h1⟩
      · rw [if_neg (fun e' => e (Nat.succ.inj (key_inj e')))] at hu
        obtain ⟨y, k1, k2⟩ := hF.far q u hq hu
        exact ⟨y, by rw [Array.getElem?_setIfInBounds_ne (fun e' => e e'.symm)]; exact k1, k2⟩
    obtain ⟨g1, g2⟩ := ih h h2 (fun q hq => hlt q (List.mem_cons_of_mem _ hq)) hF'
    exact ⟨by simp [g1], g2⟩

theorem yield_of_code {tbl : Nat → Option CFunc} {ng n : Nat} (hC : CodeOk P tbl ng n) : YldOk P ng (doYield (run tbl n)) := by
  intro p as H r H' hev ρ w args L hH hL hx hl
  unfold doYield at hev
  split at hev
  · rename_i pe fr k h0
    split at hev
    · cases hev
    · rename_i fr1 h1
      split at hev
      · rename_i fr2 H2 h2
        split at hev
        · rename_i pe3 fr3 k3 h3
          split at hev
          · rename_i e frx H3 h4
            obtain ⟨r0, w0, s0, q0, p0, a0, b0, n0, f0⟩ := hH.objs p _ L h0 (by simp) hL
            obtain ⟨c1, c2, c3, c4, c5⟩ := hH.loops p _ h0
            have hF0 : FRel ⟨k.far, k.n, ng⟩ ρ (canonF fr k.n) r0.tmps := ⟨n0, fun t v ht hv => f0 t v ht (canonF_get hv)⟩
            obtain ⟨g1, g2⟩ := setParams_ok h1 hx c5 hF0
            have hsz : args.size = r0.params.size := by
              have : args.toList.length = k.ps.length := g1
              rw [← p0] at this
              simpa using this
            refine ⟨r0, w0, hsz, ?_⟩
            have htm : (r0.params.zip args).foldl (fun tmps x => tmps.setIfInBounds x.1 x.2) r0.tmps = (k.ps.zip args.toList).foldl (fun tm x => tm.setIfInBounds x.1 x.2) r0.tmps := by
              rw [← p0, ← Array.foldl_toList, Array.toList_zip]
            refine roundIn_of_wpIn (F := fz none) trivial ?_
            show Code.wpIn (fz (some L.b)) 0 P r0.assign _ _ w
            rw [a0]
            refine wpIn_mono (hC (some L.b) (true, false) (fun _ => rfl) ⟨k.far, k.n, ng⟩ k.srcA k.assign fr1 H _ c1 rfl ⟨fun _ => c3, fun h => (by cases h)⟩ h2 ρ { tmps := _, defers := [] } w ?_ hH) ?_
            · show FRel _ ρ fr1 ((r0.params.zip args).foldl (fun tmps x => tmps.setIfInBounds x.1 x.2) r0.tmps)
              rw [htm]
              exact g2
            · intro e1 a1 w1 ⟨ρ1, p1, p2, p3, p4, p5⟩
              cases e1 with
              | normal =>
                have hL1 := p3.ext p L hL
                obtain ⟨r1, v1, s1, q1, o1, a1', b1, n1, f1⟩ := p2.objs p _ L h3 (by simp) hL1
                refine ⟨_, run_beginRound v1 s1, ?_⟩
                have lo1 : (AO.loop 1 pe3 fr3 k3).loopOk P ng := (p2.loops p (.loop 0 pe3 fr3 k3) h3 :)
                have hH2 : HRel P ng ρ1 (H2.put p (.loop 1 pe3 fr3 k3)) (w1.putObj L.b (.loop { r1 with state := .busy })) :=
                  HRel.turn p2 h3 (by simp) hL1 World.putObj_size (fun b hb => World.putObj_heap_other hb) ⟨_, World.putObj_heap_same (by have := p2.bound p L hL1; exact this), rfl, q1, o1, a1', b1, n1, f1⟩ (by simp) lo1
                have hS2 : Step ρ1 H2 w1 ρ1 (H2.put p (.loop 1 pe3 fr3 k3)) (w1.putObj L.b (.loop { r1 with state := .busy })) :=
                  Step.turn p2 h3 (by simp) (by simp) hL1 World.putObj_size (fun b hb => World.putObj_heap_other hb) rfl rfl rfl
                show Code.wpIn (fz (some L.b)) 0 P r0.body _ _ _
                rw [b0]
                refine wpIn_mono (hC (some L.b) (true, false) (fun _ => rfl) ⟨k.far, k.n, ng⟩ k.srcB k.body fr2 _ _ c2 rfl ⟨fun _ => c4, fun h => (by cases h)⟩ h4 ρ1 a1 _ p1 hH2) ?_
                intro e2 a2 w3 ⟨ρ2, t1, t2, t3, t4, t5⟩
                have hL2 := t3.ext p L hL1
                have fin : ∀ (jump : Option Code) (st : Nat) (pn : AV) s4 q4 fr4 k4, stOf st = (if jump.isNone then .ready else .done) → jumpOf pn = jump → H3.get p = some (.loop s4 q4 fr4 k4) → r = .ret (.bool jump.isNone) → H' = H3.put p (.loop st pn fr4 k4) →
                    ∃ v w', (Instr.endRound L.b jump).run P w3 = .ok v w' ∧ ∃ ρ', HRel P ng ρ' H' w' ∧ Step ρ H w ρ' H' w' ∧ EndRel ρ' r (.returned v) := by
                  intro jump st pn s4 q4 fr4 k4 e1 e2 e3 e4 e5
                  obtain ⟨r3, v3, s3, q3, o3, a3, b3, n3, f3⟩ := t2.objs p _ L e3 (by simp) hL2
                  have lo3 : (AO.loop st pn fr4 k4).loopOk P ng := (t2.loops p (.loop s4 q4 fr4 k4) e3 :)
                  refine ⟨_, _, run_endRound jump v3, ρ2, ?_, ?_, ?_⟩
                  · rw [e5]
                    exact HRel.turn t2 e3 (by simp) hL2 World.putObj_size (fun b hb => World.putObj_heap_other hb) ⟨_, World.putObj_heap_same (by have := t2.bound p L hL2; exact this), e1.symm, e2.symm, o3, a3, b3, n3, f3⟩ (by simp) lo3
                  · rw [e5]
                    exact ((p3.trans hS2).trans t3).trans (Step.turn t2 e3 (by simp) (by simp) hL2 World.putObj_size (fun b hb => World.putObj_heap_other hb) rfl rfl rfl)
                  · rw [e4]; exact rfl
                cases e with
                | normal =>
                  simp only [pendOf] at hev
                  split at hev
                  · rename_i x2 s4 q4 fr4 k4 x7 x8
                    cases x7
                    cases hev
                    cases e2 with
                    | normal => exact fin none 0 .nil _ _ _ _ rfl rfl x8 rfl rfl
                    | _ => exact t5.elim
                  · cases hev
                | exit i =>
                  simp only [pendOf] at hev
                  split at hev
                  · rename_i x2 s4 q4 fr4 k4 x7 x8
                    cases x7
                    cases hev
                    cases e2 with
                    | exit j => cases t5; exact fin (some (.exit i)) 2 (.int 0 i) _ _ _ _ rfl rfl x8 rfl rfl
                    | _ => exact t5.elim
                  · cases hev
                | goto i =>
                  simp only [pendOf] at hev
                  split at hev
                  · rename_i x2 s4 q4 fr4 k4 x7 x8
                    cases x7
                    cases hev
                    cases e2 with
                    | goto j => cases t5; exact fin (some (.goto i)) 2 (.int 1 i) _ _ _ _ rfl rfl x8 rfl rfl
                    | _ => exact t5.elim
                  · cases hev
                | ret =>
                  simp only [pendOf] at hev
                  split at hev
                  · rename_i x2 s4 q4 fr4 k4 x7 x8
                    cases x7
                    cases hev
                    cases e2 with
                    | ret => exact fin (some .ret) 2 (.bool true) _ _ _ _ rfl rfl x8 rfl rfl
                    | _ => exact t5.elim
                  · cases hev
                | pan v => simp only [pendOf] at hev; cases hev
              | _ => exact p5.elim
          · cases hev
        · cases hev
      · cases hev
  · cases hev

/-! Code. -/
theorem cond_ok (hF : FRel C ρ fr a.tmps) (hH : HRel P C.ng ρ H w) {c : Operand} {c' : Opd} {b : Bool} (h : opd C [] c = some c') (hb : condV fr c' = some b) : a.eval c = .bool b := by
  unfold condV at hb
  split at hb
  · rename_i b' he
    cases hb
    exact (opd_rel (ls := .nil) hF (fun t j v hn _ => by simp [nameAt] at hn) hH.globals h he).bool_eq
  · cases hb

theorem loop_step {ro : Option Nat} {pl : PL} {tbl : Nat → Option CFunc} {ng n : Nat} (hC : CodeOk P tbl ng n) (hL : LoopOk P tbl ng n) {c : Code} {d : CCode} {r : Ex × Tr AV × Heap} (hd : codeP P C c = some d) (hng : C.ng = ng) (hrp : ro.isSome = true → pl.1 = true) (hpl : Fits pl d)
    (hrun : stepC tbl (run tbl n) (.loop d) fr H = some r) (hF : FRel C ρ fr a.tmps) (hH : HRel P C.ng ρ H w) (b : Frame) (k : List Item) (cs : List Frame) (hro : b.roundOf = ro) :
    ∃ e a' w', Post pl P C ρ H w a.defers (dl fr) r e a' w' ∧ ArrivesIn (Machine.fenced P (fz ro)) P (lone (b.atR a (.code c :: .inLoop c :: k)) cs w) b k cs e a' w' := by
  simp only [stepC] at hrun
  split at hrun
  · rename_i fr1 H1 h1
    obtain ⟨e, a', w', hp, harr⟩ := hC ro pl hrp C c d fr H _ hd hng hpl h1 ρ a w hF hH b (.inLoop c :: k) cs hro trivial (room_fz _ _)
    obtain ⟨ρ', p1, p2, p3, p4, p5⟩ := hp
    cases e with
    | normal =>
      obtain ⟨e2, a2, w2, hp2, harr2⟩ := hL ro pl hrp C c d fr1 H1 r hd hng hpl hrun ρ' a' w' p1 p2 b k cs hro
      exact ⟨e2, a2, w2, hp2.more p3 p4, .of_steps (StepsIn.trans harr (oneR rfl stepR_inLoop)) harr2⟩
    | _ => exact p5.elim
  · rename_i hne
    obtain ⟨e, a', w', hp, harr⟩ := hC ro pl hrp C c d fr H _ hd hng hpl hrun ρ a w hF hH b (.inLoop c :: k) cs hro trivial (room_fz _ _)
    have hnn : e ≠ .normal := by
      intro e0
      subst e0
      obtain ⟨ex, fr1, H1⟩ := r
      obtain ⟨ρ', p1, p2, p3, p4, p5⟩ := hp
      cases ex with
      | normal => exact absurd hrun (hne fr1 H1)
      | _ => exact p5.elim
    exact ⟨e, a', w', hp, .pass (x := .inLoop c) rfl (fun _ _ => .inl hnn) harr⟩

theorem scope_step {ro : Option Nat} {pl : PL} {tbl : Nat → Option CFunc} {ng n : Nat} (hC : CodeOk P tbl ng n) (hS : ScopeOk P tbl ng n) {c d : Code} {cc dd : CCode} {r : Ex × Tr AV × Heap} (hc : codeP P C c = some cc) (hd : codeP P C d = some dd) (hng : C.ng = ng) (hrp : ro.isSome = true → pl.1 = true) (hpc : Fits pl cc) (hpd : Fits pl dd)
    (hrun : stepC tbl (run tbl n) (.scope dd cc) fr H = some r) (hF : FRel C ρ fr a.tmps) (hH : HRel P C.ng ρ H w) (b : Frame) (k : List Item) (cs : List Frame) (hro : b.roundOf = ro) :
    ∃ e a' w', Post pl P C ρ H w a.defers (dl fr) r e a' w' ∧ ArrivesIn (Machine.fenced P (fz ro)) P (lone (b.atR a (.code d :: .inScope c :: k)) cs w) b k cs e a' w' := by
  simp only [stepC] at hrun
  have out : ∀ q, run tbl n dd fr H = some q → ∃ e a' w', Post pl P C ρ H w a.defers (dl fr) q e a' w' ∧ ArrivesIn (Machine.fenced P (fz ro)) P (lone (b.atR a (.code d :: .inScope c :: k)) cs w) b (.inScope c :: k) cs e a' w' :=
    fun q hq => hC ro pl hrp C d dd fr H q hd hng hpd hq ρ a w hF hH b (.inScope c :: k) cs hro trivial (room_fz _ _)
  split at hrun
  · rename_i l fr1 H1 h1
    obtain ⟨e, a', w', hp, harr⟩ := out _ h1
    obtain ⟨ρ', p1, p2, p3, p4, p5⟩ := hp
    cases e with
    | goto l' =>
      have p5 : l = l' := p5
      subst p5
      rcases findLabel_comp hc l with ⟨f1, f2⟩ | ⟨x, y, f1, f2, f3⟩
      · rw [f2] at hrun
        cases hrun
        refine ⟨.goto l, a', w', ⟨ρ', p1, p2, p3, p4, rfl⟩, ?_⟩
        exact ⟨fun k' hk => harr.1 k' (by simp [gotoIn, f1, hk]), fun hr hk => harr.2 hr (by simp [gotoIn, f1, hk])⟩
      · rw [f2] at hrun
        obtain ⟨e2, a2, w2, hp2, harr2⟩ := hS ro pl hrp C c cc x y fr1 H1 r hc f3 hng hpc (hpc.label f2) hrun ρ' a' w' p1 p2 b k cs hro
        exact ⟨e2, a2, w2, hp2.more p3 p4, .of_steps (harr.1 _ (by simp [gotoIn, f1])) harr2⟩
    | _ => exact p5.elim
  · rename_i hne
    obtain ⟨e, a', w', hp, harr⟩ := out _ hrun
    cases e with
    | normal => exact ⟨.normal, a', w', hp, StepsIn.trans harr (oneR rfl stepR_inScope)⟩
    | exit id => exact ⟨.exit id, a', w', hp, fun k' hk => harr.1 k' (by simp [exitTo, hk]), fun hr hk => harr.2 hr (by simp [exitTo, hk])⟩
    | goto l =>
      exfalso
      obtain ⟨ex, fr1, H1⟩ := r
      obtain ⟨ρ', p1, p2, p3, p4, p5⟩ := hp
      cases ex with
      | goto l' => exact absurd hrun (hne l' fr1 H1)
      | _ => exact p5.elim
    | ret => exact ⟨_, a', w', hp, harr⟩
    | panic ch => exact ⟨_, a', w', hp, harr⟩
    | outgrown => exact ⟨_, a', w', hp, harr⟩

theorem code_succ {tbl : Nat → Option CFunc} {ng n : Nat} (hT : TblOk P ng tbl) (hC : CodeOk P tbl ng n) (hSo : CodeSOk P tbl ng n) (hL : LoopOk P tbl ng n) (hS : ScopeOk P tbl ng n) : CodeOk P tbl ng (n + 1) := by
  intro ro pl hrp C c cc fr H r hc hng hpl hrun ρ a w hF hH
  have hyld := yield_of_code hC
  rw [← hng] at hyld
  have hcall := call_of_code hT hC hSo
  rw [← hng] at hcall
  have hrun : stepC tbl (run tbl n) cc fr H = some r := hrun
  cases c with
  | skip =>
    simp only [codeP] at hc; cases hc
    cases hrun
    exact wpIn_skip ⟨ρ, hF, hH, Step.refl ρ H w, Marks.refl _ _ _ _ _ _ _, trivial⟩
  | label l =>
    simp only [codeP] at hc; cases hc
    cases hrun
    exact wpIn_label ⟨ρ, hF, hH, Step.refl ρ H w, Marks.refl _ _ _ _ _ _ _, trivial⟩
  | exit i =>
    simp only [codeP] at hc; cases hc
    cases hrun
    exact wpIn_exit ⟨ρ, hF, hH, Step.refl ρ H w, Marks.refl _ _ _ _ _ _ _, rfl⟩
  | goto l =>
    simp only [codeP] at hc; cases hc
    cases hrun
    exact wpIn_goto ⟨ρ, hF, hH, Step.refl ρ H w, Marks.refl _ _ _ _ _ _ _, rfl⟩
  | ret =>
    simp only [codeP] at hc; cases hc
    cases hrun
    exact wpIn_ret ⟨ρ, hF, hH, Step.refl ρ H w, Marks.refl _ _ _ _ _ _ _, trivial⟩
  | region id ops d =>
    simp only [codeP] at hc
    unfold regionP at hc
    split at hc
    · rename_i hd
      simp only [Bool.not_eq_true'] at hd
      subst hd
      obtain ⟨cs, hcs, rfl⟩ := Option.map_eq_some_iff.1 hc
      simp only [stepC] at hrun
      refine wpIn_region ?_
      have E : Env P C ρ (namesOf ops []) .nil fr a H w := ⟨hF, fun t j v hn _ => by simp [nameAt, namesOf] at hn, hH⟩
      split at hrun
      · rename_i ls' fr' H' he
        cases hrun
        exact region_ok hcall hyld _ _ _ _ _ _ _ _ _ _ _ hcs hpl hrp E he (fun e a' w' hp => hp)
      · rename_i v fr' H' he
        cases hrun
        exact region_ok hcall hyld _ _ _ _ _ _ _ _ _ _ _ hcs hpl hrp E he (fun e a' w' hp => hp)
      · cases hrun
    · rename_i hd
      simp only [Bool.not_eq_true', Bool.not_eq_false] at hd
      subst hd
      obtain ⟨ds, hds, rfl⟩ := Option.map_eq_some_iff.1 hc
      simp only [stepC] at hrun
      refine wpIn_region_any hT.mixed ?_
      split at hrun
      · rename_i fr' H' he
        cases hrun
        exact draw_ok hcall hds hF hH he _ (fun e a' w' hp => hp)
      · split at hrun
        · rename_i v fr' H' he
          cases hrun
          exact draw_pan hcall hds hF hH he _ (fun e a' w' hp => hp)
        · cases hrun
  | seq x y =>
    simp only [codeP] at hc
    split at hc
    · rename_i cx cy hx hy
      cases hc
      simp only [stepC] at hrun
      refine wpIn_seq ?_
      split at hrun
      · rename_i fr1 H1 h1
        refine wpIn_mono (hC ro pl hrp C x cx fr H _ hx hng hpl.seq.1 h1 ρ a w hF hH) ?_
        intro e a' w' hp
        obtain ⟨ρ', p1, p2, p3, p4, p5⟩ := hp
        cases e with
        | normal =>
          refine wpIn_mono (hC ro pl hrp C y cy fr1 H1 r hy hng hpl.seq.2 hrun ρ' a' w' p1 p2) ?_
          intro e a'' w'' hq
          exact hq.more p3 p4
        | _ => exact p5.elim
      · rename_i hne
        refine wpIn_mono (hC ro pl hrp C x cx fr H _ hx hng hpl.seq.1 hrun ρ a w hF hH) ?_
        intro e a' w' hp
        cases e with
        | normal =>
          obtain ⟨ex, fr1, H1⟩ := r
          obtain ⟨ρ', p1, p2, p3, p4, p5⟩ := hp
          cases ex with
          | normal => exact absurd hrun (hne fr1 H1)
          | _ => exact p5.elim
        | _ => exact hp
    · cases hc
  | cond x c1 c2 =>
    simp only [codeP] at hc
    split at hc
    · rename_i x' hx
      cases hc
      simp only [stepC] at hrun
      split at hrun
      · rename_i hb
        refine wpIn_cond_true (cond_ok hF hH hx hb) ?_
        cases h1 : codeP P C c1 with
        | none => rw [h1] at hrun; exact (run_stuck hrun).elim
        | some d1 => rw [h1] at hrun hpl; exact hC ro pl hrp C c1 d1 fr H r h1 hng hpl.cond.1 hrun ρ a w hF hH
      · rename_i hb
        refine wpIn_cond_false (cond_ok hF hH hx hb) ?_
        cases h2 : codeP P C c2 with
        | none => rw [h2] at hrun; exact (run_stuck hrun).elim
        | some d2 => rw [h2] at hrun hpl; exact hC ro pl hrp C c2 d2 fr H r h2 hng hpl.cond.2 hrun ρ a w hF hH
      · cases hrun
    · cases hc
  | block id c =>
    simp only [codeP] at hc
    obtain ⟨d, hd, rfl⟩ := Option.map_eq_some_iff.1 hc
    simp only [stepC] at hrun
    refine wpIn_block ?_
    split at hrun
    · rename_i e1 fr1 H1 h1
      cases hrun
      refine wpIn_mono (hC ro pl hrp C c d fr H _ hd hng hpl.block h1 ρ a w hF hH) ?_
      intro e a' w' hp
      obtain ⟨ρ', p1, p2, p3, p4, p5⟩ := hp
      cases e1 with
      | exit i =>
        cases e with
        | exit j =>
          have p5 : i = j := p5
          subst p5
          simp only [Exit.inBlock, atBlock]
          split
          · exact ⟨ρ', p1, p2, p3, p4, trivial⟩
          · exact ⟨ρ', p1, p2, p3, p4, rfl⟩
        | _ => exact p5.elim
      | _ => cases e <;> first | exact p5.elim | exact ⟨ρ', p1, p2, p3, p4, p5⟩
    · cases hrun
  | loop c =>
    simp only [codeP] at hc
    obtain ⟨d, hd, rfl⟩ := Option.map_eq_some_iff.1 hc
    intro b k cs hro _ _
    suffices h : ∃ e a' w', Post pl P C ρ H w a.defers (dl fr) r e a' w' ∧ ArrivesIn (Machine.fenced P (fz ro)) P (lone (b.atR a (.code c :: .inLoop c :: k)) cs w) b k cs e a' w' by
      obtain ⟨e, a', w', h1, h2⟩ := h
      exact ⟨e, a', w', h1, .of_steps (oneR rfl stepR_loop) h2⟩
    exact loop_step hC hL hd hng hrp hpl.loop hrun hF hH b k cs hro
  | scope c =>
    simp only [codeP] at hc
    obtain ⟨d, hd, rfl⟩ := Option.map_eq_some_iff.1 hc
    intro b k cs hro _ _
    suffices h : ∃ e a' w', Post pl P C ρ H w a.defers (dl fr) r e a' w' ∧ ArrivesIn (Machine.fenced P (fz ro)) P (lone (b.atR a (.code c :: .inScope c :: k)) cs w) b k cs e a' w' by
      obtain ⟨e, a', w', h1, h2⟩ := h
      exact ⟨e, a', w', h1, .of_steps (oneR rfl stepR_scope) h2⟩
    exact scope_step hC hS hd hd hng hrp hpl.scope.2 hpl.scope.1 hrun hF hH b k cs hro
  | rangeFunc f ps x y =>
    simp only [codeP] at hc
    split at hc
    · rename_i g' cx cy hg hx hy
      split at hc
      · rename_i hcond
        cases hc
        simp only [Bool.and_eq_true, List.all_eq_true, decide_eq_true_eq] at hcond
        obtain ⟨⟨hpx, hpy⟩, hps⟩ := hcond
        have hro : ro = none := by
          cases ro with
          | none => rfl
          | some l => have := hpl.p (hrp rfl); cases this
        subst hro
        simp only [stepC] at hrun
        split at hrun
        · rename_i fid av bv hgv
          obtain ⟨xs, ys, f', e1, e2, i1, i2, r1, r2⟩ := opd_rel (ls := .nil) hF (fun t j v hn _ => by simp [nameAt] at hn) hH.globals hg hgv
          cases e1
          have hfe : a.eval f = .func (.func fid) xs ys := by simpa using e2
          refine wpIn_rangeFunc fun fn _ => ?_
          generalize hr0 : ({ state := .ready, pending := none, fn := fn, tmps := a.tmps, params := ps, assign := x, body := y, defers := w.heap.size } : Loop) = r0
          have hHp := hH.push (.deferred (some []))
          have hSp := Step.push hH (.deferred (some []))
          have hlo : (AO.loop 0 .nil (canonF fr C.n) ⟨ps.toList, cx, cy, x, y, C.n, C.far⟩).loopOk P C.ng := ⟨hx, hy, hpx, hpy, hps⟩
          have hob : ∀ ρ', Ext ρ ρ' → HO ρ' ((w.alloc (.deferred (some []))).alloc (.loop r0)) ⟨(w.alloc (.deferred (some []))).heap.size, 0, 0⟩ (AO.loop 0 .nil (canonF fr C.n) ⟨ps.toList, cx, cy, x, y, C.n, C.far⟩) := by
            intro ρ' he
            subst hr0
            exact ⟨_, World.alloc_heap_new _ _, rfl, rfl, rfl, rfl, rfl, hF.size, fun t v ht hv => (hF.mono he).far t v ht (canonF_get hv)⟩
          have hH1 := HRel.alloc hHp (o := .loop r0) (w' := (w.alloc (.deferred (some []))).alloc (.loop r0)) rfl hob (by simp) hlo
          have hS1 := hSp.trans (Step.alloc hHp (o := .loop r0) (ao := AO.loop 0 .nil (canonF fr C.n) ⟨ps.toList, cx, cy, x, y, C.n, C.far⟩) (sz := 0) (w' := (w.alloc (.deferred (some []))).alloc (.loop r0)) rfl rfl rfl rfl)
          have hl : (w.alloc (.deferred (some []))).heap.size = w.heap.size + 1 := World.size_alloc _ _
          rw [hl] at hH1 hS1
          have hext := hS1.ext
          generalize hρ1 : ρ.put H.next ⟨w.heap.size + 1, 0, 0⟩ = ρ1 at *
          have hL1 : ρ1 H.next = some ⟨w.heap.size + 1, 0, 0⟩ := by rw [← hρ1]; simp [Ren.put]
          generalize hH1e : (H.new (AO.loop 0 .nil (canonF fr C.n) ⟨ps.toList, cx, cy, x, y, C.n, C.far⟩)).2 = H1 at *
          have hw1s : ((w.alloc (.deferred (some []))).alloc (.loop r0)).heap.size = w.heap.size + 2 := by rw [World.size_alloc, hl]
          have hmark : MarkAt w ρ1 H1 ((w.alloc (.deferred (some []))).alloc (.loop r0)) w.heap.size := by
            refine ⟨Nat.le_refl _, ?_, fun p L hlv hp e => ?_⟩
            · show ((w.heap.push _).push _)[w.heap.size]? = _
              rw [Array.getElem?_push, if_neg (by simp), Array.getElem?_push, if_pos rfl]
            · rw [← hρ1] at hp
              unfold Ren.put at hp
              split at hp
              · cases hp; simp at e
              · have := hH.bound p L hp; omega
          have henter := run_enterLoop_outer (P := P) (w := w) fn a.tmps ps x y
          rw [hr0] at henter
          generalize hw1 : (w.alloc (.deferred (some []))).alloc (.loop r0) = w1 at *
          have hRX : RX ρ1 (av.app (.cons (.yield H.next) bv)) ((xs ++ #[Value.func (.yield (w.heap.size + 1)) #[] #[]]) ++ ys).toList := by
            have := (r1.mono hext).app i1 (show RX ρ1 (.cons (.yield H.next) bv) (Value.func (.yield (w.heap.size + 1)) #[] #[] :: ys.toList) from ⟨_, _, rfl, ⟨_, hL1, rfl⟩, r2.mono hext⟩)
            simpa using this
          have hli : (av.app (.cons (.yield H.next) bv)).isList = true := AV.isList_app i1 i2
          have hrun2 : ∃ cr H2, doCall tbl (run tbl n) fid (av.app (.cons (.yield H.next) bv)) H1 = some (cr, H2) := by
            cases hd : doCall tbl (run tbl n) fid (av.app (.cons (.yield H.next) bv)) H1 with
            | none => rw [hd] at hrun; cases hrun
            | some q => exact ⟨q.1, q.2, rfl⟩
          obtain ⟨cr, H2, hcl⟩ := hrun2
          rw [hcl] at hrun
          obtain ⟨⟨fnr, k1, k2, k3⟩, hcw⟩ := hcall fid _ H1 cr H2 hcl
          have hinv : (invoke (.fn (.func fid) ys) (xs ++ #[Value.func (.yield (w.heap.size + 1)) #[] #[]])).run P w1 = .ok (.enter fid ((xs ++ #[Value.func (.yield (w.heap.size + 1)) #[] #[]]) ++ ys)) w1 := run_callFunc k1 k2 k3 w1
          refine ⟨w.heap.size + 1, [markD w.heap.size], w1, { target := .fn (.func fid) ys, args := xs ++ #[Value.func (.yield (w.heap.size + 1)) #[] #[]] }, w1, fid, (xs ++ #[Value.func (.yield (w.heap.size + 1)) #[] #[]]) ++ ys, w1, henter, ?_, fun _ _ => trivial, hinv, fun h => (by cases h), callsIn_fz.2 ?_⟩
          · show (Deferred.ofValue (a.eval f) _).run P w1 = _
            rw [hfe]
            have hm : (rangeCall f (w.heap.size + 1)).args.map a.eval = #[.func (.yield (w.heap.size + 1)) #[] #[]] := by simp only [rangeCall, List.map_toArray, List.map_cons, List.map_nil]; rfl
            rw [hm]
            rfl
          · refine Calls.mono (hcw ρ1 w1 _ hH1 hRX hli) ?_
            intro e w3 ⟨ρ2, u1, u2, u3⟩
            have hL2 := u2.ext _ _ hL1
            have hS2 := hS1.trans u2
            cases cr with
            | pan v =>
              simp only [Option.some.injEq] at hrun
              cases hrun
              cases e with
              | panicked ch =>
                obtain ⟨z, rfl, hz⟩ := u3
                exact ⟨ρ2, hF.mono hS2.ext, u1, hS2, ⟨[markD w.heap.size], .nil, fun h => (by have := hpl.p h; cases this), fun _ => rfl, rfl, rfl, .mark (hmark.step u2) .nil, by simp [markOf, markD]⟩, z, rfl, hz⟩
              | _ => exact u3.elim
            | ret v =>
              cases e with
              | returned z =>
                simp only at hrun
                split at hrun
                · rename_i st pe fr' k' hob2
                  split at hrun
                  · cases hrun
                  · rename_i hst
                    split at hrun
                    · rename_i ex hex
                      cases hrun
                      obtain ⟨r3, v3, s3, q3, o3, a3, b3, n3, f3⟩ := u1.objs H.next _ _ hob2 (by simp) hL2
                      have hnb : r3.state ≠ .busy := by
                        rw [s3]
                        intro e
                        match st, hst, e with
                        | 0, _, e => cases e
                        | 1, h, _ => exact h rfl
                        | 2, _, e => cases e
                        | n + 3, _, e => cases e
                      have lo3 : (AO.loop 3 pe fr' k').loopOk P C.ng := (u1.loops H.next (.loop st pe fr' k') hob2 :)
                      have hH3 : HRel P C.ng ρ2 (H2.put H.next (.loop 3 pe fr' k')) (w3.putObj (w.heap.size + 1) (.loop { r3 with state := .exhausted })) :=
                        HRel.turn u1 hob2 (by simp) hL2 World.putObj_size (fun b hb => World.putObj_heap_other hb) ⟨_, World.putObj_heap_same (by have := u1.bound _ _ hL2; exact this), rfl, q3, o3, a3, b3, n3, f3⟩ (by simp) lo3
                      have hS3 : Step ρ2 H2 w3 ρ2 (H2.put H.next (.loop 3 pe fr' k')) (w3.putObj (w.heap.size + 1) (.loop { r3 with state := .exhausted })) :=
                        Step.turn u1 hob2 (by simp) (by simp) hL2 World.putObj_size (fun b hb => World.putObj_heap_other hb) rfl rfl rfl
                      have post : ∀ (ee : Exit), ExRel ρ2 ex ee → Post pl P C ρ H w a.defers (dl fr) (ex, fr, H2.put H.next (.loop 3 pe fr' k')) ee { a with defers := [markD w.heap.size] ++ a.defers } (w3.putObj (w.heap.size + 1) (.loop { r3 with state := .exhausted })) := fun ee hee =>
                        ⟨ρ2, hF.mono hS2.ext, hH3, hS2.trans hS3, ⟨[markD w.heap.size], .nil, fun h => (by have := hpl.p h; cases this), fun _ => rfl, rfl, rfl, .mark ((hmark.step u2).step hS3) .nil, by simp [markOf, markD]⟩, hee⟩
                      refine ⟨r3.pending, _, run_endLoop v3 hnb, ?_⟩
                      rw [q3] at post ⊢
                      unfold exOf at hex
                      split at hex
                      · cases hex; exact post .normal trivial
                      · cases hex; exact wpIn_exit (post (.exit _) rfl)
                      · cases hex; exact wpIn_goto (post (.goto _) rfl)
                      · cases hex; exact wpIn_ret (post .ret trivial)
                      · cases hex
                    · cases hrun
                · cases hrun
              | _ => exact u3.elim
        · cases hrun
      · cases hc
    · cases hc
  | refuse s => simp only [codeP] at hc; cases hc

/-! Code that asks what was thrown. -/
theorem run_quiet {call : Nat → AV → Heap → Option (CR × Heap)} {yld : Pos → AV → Heap → Option (CR × Heap)} {ls : AV} {ci : CI} {c : CR} (hq : ci.quiet = true) (h : CI.run call yld ls fr H ci = some (c, H')) : ∃ v, c = .ret v ∧ ci.ev ls fr H = some (v, H') := by
  cases ci with
  | callF f xs => cases hq
  | callV f xs => cases hq
  | panic f => cases hq
  | defer f xs => cases hq
  | mkMap => cases h; exact ⟨_, rfl, rfl⟩
  | lit u => cases h; exact ⟨_, rfl, rfl⟩
  | bld t e => cases h; exact ⟨_, rfl, rfl⟩
  | _ =>
    obtain ⟨⟨v, H1⟩, h1, h2⟩ := bindO h
    cases h2
    exact ⟨v, rfl, h1⟩
theorem quiet_call {ci : CI} (h : ci.quiet = true) : ci.isCall = false := by cases ci <;> first | rfl | cases h
theorem run_recover {o : Oper} (h : isRecover o.op = true) (f : Operand → Value) (w : World) : (execOp f o).run P w = .ok .recover w := by
  obtain ⟨dst, op, type, pos, after, guard⟩ := o
  cases op with
  | call c =>
    obtain ⟨cal, args, ats⟩ := c
    simp only [isRecover] at h
    split at h
    · have : args = #[] := by simpa using h
      subst this
      rfl
    · cases h
  | _ => cases h
theorem recoverD_of {m : AV} {u : FrameMode} (h : MRel ρ m u) (c₀ : Frame) (cs : List Frame) :
    (m = .niliface ∧ recoverD ({ c₀ with mode := u } :: cs) = none) ∨ ∃ x, RX ρ m [x] ∧ recoverD ({ c₀ with mode := u } :: cs) = some (x, { c₀ with mode := .panicking [{ v := x, recovered := true }] } :: cs) := by
  cases m with
  | niliface =>
    rcases h with rfl | ⟨x, rfl⟩
    · exact .inl ⟨rfl, rfl⟩
    · exact .inl ⟨rfl, rfl⟩
  | iface t v => obtain ⟨x, rfl, hx⟩ := h; exact .inr ⟨x, hx, rfl⟩
  | _ => exact h.elim

theorem opsS_ok {call : Nat → AV → Heap → Option (CR × Heap)} {yld : Pos → AV → Heap → Option (CR × Heap)} {ops : Array Oper} {c₀ : Frame} {cs : List Frame} (Q : Exit → Act → List Frame → World → Prop) : ∀ (l done : List Nat) (cc : CIs) (ls : AV) (fr : Tr AV) (H : Heap) (a : Act) (w : World) (ρ : Ren) (r : RO) (m : AV) (u : FrameMode),
    opsS P C ops l done = some cc → Env P C ρ (namesOf ops done) ls fr a H w → CIs.run call yld cc ls fr H = some r → fr.get .h = some m → MRel ρ m u →
    (∀ e a' cs' w', (match r with
      | .ok _ fr' H' => PostS P C ρ H w a.defers c₀ cs (.normal, fr', H') e a' cs' w'
      | .pan v fr' H' => PostS P C ρ H w a.defers c₀ cs (.pan v, fr', H') e a' cs' w') → Q e a' cs' w') →
    wpOpsSIn (fz none) 0 P ops Q l a ({ c₀ with mode := u } :: cs) w := by
  intro l
  induction l with
  | nil =>
    intro done cc ls fr H a w ρ r m u hc E hrun hm hmr hQ
    simp only [opsS] at hc
    cases hc
    simp only [CIs.run] at hrun
    cases hrun
    exact hQ _ _ _ _ ⟨ρ, E.F, E.H, Step.refl ρ H w, rfl, ⟨m, u, hm, hmr, rfl⟩, trivial⟩
  | cons i l ih =>
    intro done cc ls fr H a w ρ r m u hc E hrun hm hmr hQ
    simp only [opsS] at hc
    split at hc
    · cases hc
    · rename_i o ho
      split at hc
      · cases hc
      · rename_i hd
        simp only [Bool.not_eq_true', Bool.not_eq_false] at hd
        simp only [wpOpsSIn, ho]
        refine ⟨fun _ _ => trivial, ?_⟩
        split at hc
        · rename_i hrec
          split at hc
          · cases hc
          rename_i hgd
          simp only [Bool.not_eq_true, Option.isSome_eq_false_iff, Option.isNone_iff_eq_none] at hgd
          obtain ⟨cs', hcs, rfl⟩ := Option.map_eq_some_iff.1 hc
          have hn : namesOf ops (ops.size :: i :: done) = none :: o.dst :: namesOf ops done := by simp [namesOf, ho]
          have hw : Region.wanted o (yielded ops a.tmps) = true := by unfold Region.wanted; rw [hgd]
          rw [hw]
          simp only [if_true]
          rw [run_recover hrec]
          simp only [CIs.run, wanted, CI.run, CI.ev, Opd.ev, hm, Option.bind_eq_bind, Option.bind_some] at hrun
          have next : ∀ (x : Value) (u' : FrameMode), RX ρ m [x] → MRel ρ .niliface u' → wpOpsSIn (fz none) 0 P ops Q l (a.put o.dst x) ({ c₀ with mode := u' } :: cs) w := by
            intro x u' hx hu'
            have E' : Env P C ρ (namesOf ops (ops.size :: i :: done)) (.cons .niliface (.cons m ls)) ((setDst fr (farDst C o.dst) m).set .h .niliface) (a.put o.dst x) H w := by
              rw [hn]
              exact ⟨(E.F.put hx hd).setH, (E.L.put E.F.size hx hd).skip, E.H⟩
            refine ih _ cs' _ _ H _ w ρ r .niliface u' hcs E' hrun (Tr.get_set_same _ _ _) hu' ?_
            intro e a' cs'' w'' hp
            rw [put_defers] at hp
            exact hQ e a' cs'' w'' hp
          rcases recoverD_of hmr c₀ cs with ⟨rfl, h1⟩ | ⟨x, hx, h1⟩
          · simp only [h1]
            exact next .nilIface u rfl hmr
          · simp only [h1]
            exact next x _ hx (.inr ⟨x, rfl⟩)
        · split at hc
          · rename_i g cs' hg hcs
            have hst : CI.run call yld ls fr H stuckCI = none := rfl
            cases hc
            generalize hopt : quietOr (opP P C (namesOf ops done) o.op) = oc at hrun
            have hoc : oc = stuckCI ∨ ∃ ci, opP P C (namesOf ops done) o.op = some ci ∧ ci.quiet = true ∧ oc = ci := by
              cases hci : opP P C (namesOf ops done) o.op with
              | none => rw [hci] at hopt; exact .inl hopt.symm
              | some ci =>
                rw [hci] at hopt
                simp only [quietOr] at hopt
                split at hopt
                · rename_i hq; exact .inr ⟨ci, rfl, hq, hopt.symm⟩
                · exact .inl hopt.symm
            · have hn : namesOf ops (i :: done) = o.dst :: namesOf ops done := by simp [namesOf, ho]
              have hmo : ∀ v, (setDst fr (farDst C o.dst) v).get .h = some m := by
                intro v
                cases hod : o.dst with
                | none => exact hm
                | some d =>
                  simp only [farDst]
                  split
                  · simp only [setDst]
                    rw [Tr.get_set_ne (fun e => by have := key_inj (show key 0 = key (d + 1) from e); omega)]
                    exact hm
                  · exact hm
              have next : ∀ ρ' v x H1 w', RX ρ' v [x] → HRel P C.ng ρ' H1 w' → Step ρ H w ρ' H1 w' → CIs.run call yld cs' (.cons v ls) (setDst fr (farDst C o.dst) v) H1 = some r → wpOpsSIn (fz none) 0 P ops Q l (a.put o.dst x) ({ c₀ with mode := u } :: cs) w' := by
                intro ρ' v x H1 w' hx hH hS hrun'
                have E' : Env P C ρ' (namesOf ops (i :: done)) (.cons v ls) (setDst fr (farDst C o.dst) v) (a.put o.dst x) H1 w' := by
                  rw [hn]
                  exact ⟨(E.F.mono hS.ext).put hx hd, (E.L.mono hS.ext).put E.F.size hx hd, hH⟩
                refine ih (i :: done) cs' _ _ H1 _ w' ρ' r m u hcs E' hrun' (hmo v) (hmr.mono hS.ext) ?_
                intro e a' cs'' w'' hp
                refine hQ e a' cs'' w'' ?_
                rw [put_defers] at hp
                cases r <;>
                · obtain ⟨ρ'', p1, p2, p3, p4, p5, p6⟩ := hp
                  exact ⟨ρ'', p1, p2, hS.trans p3, p4, p5, p6⟩
              simp only [CIs.run] at hrun
              split at hrun
              · cases hrun
              · rename_i hw
                rw [wanted_ok E.L hg hw]
                simp only [Bool.false_eq_true, if_false]
                exact next ρ undefA undef H w (RX.undef ρ) E.H (Step.refl ρ H w) hrun
              · rename_i hw
                rw [wanted_ok E.L hg hw]
                simp only [if_true]
                rcases hoc with rfl | ⟨ci, hci, hq, rfl⟩
                · rw [hst] at hrun; cases hrun
                split at hrun
                · rename_i v H1 hev
                  obtain ⟨v', hv', hev'⟩ := run_quiet hq hev
                  cases hv'
                  obtain ⟨ρ', w', x, nx, r1, r2, r3, r4, r5⟩ := op_ok E hci (quiet_call hq) hev'
                  rw [r1]
                  rcases r2 with rfl | ⟨rfl, rfl⟩
                  · exact next ρ' v x H1 w' r3 r4 r5 hrun
                  · exact next ρ' v _ H1 w' r3 r4 r5 hrun
                · rename_i v H1 hev
                  obtain ⟨v', hv', _⟩ := run_quiet hq hev
                  cases hv'
                · cases hrun
          · cases hc

theorem PostS.more {r : Ex × Tr AV × Heap} {ρ' : Ren} {w' : World} {ds : List Deferred} {c₀ : Frame} {cs : List Frame} {e : Exit} {a' : Act} {cs' : List Frame} {w'' : World} (hS : Step ρ H w ρ' H' w') (h : PostS P C ρ' H' w' ds c₀ cs r e a' cs' w'') : PostS P C ρ H w ds c₀ cs r e a' cs' w'' := by
  obtain ⟨ρ'', p1, p2, p3, p4⟩ := h
  exact ⟨ρ'', p1, p2, hS.trans p3, p4⟩

theorem plainS_ok {tbl : Nat → Option CFunc} {ng n : Nat} (hC : CodeOk P tbl ng n) {c : Code} {cc : CCode} {r : Ex × Tr AV × Heap} (hc : codeP P C c = some cc) (hng : C.ng = ng) (hp : cc.plain = true) (hrun : run tbl n cc fr H = some r) (hF : FRel C ρ fr a.tmps) (hH : HRel P C.ng ρ H w)
    (c₀ : Frame) (cs : List Frame) (u : FrameMode) (m : AV) (hm : fr.get .h = some m) (hmr : MRel ρ m u) : c.wpSIn (fz none) 0 P (PostS P C ρ H w a.defers c₀ cs r) a ({ c₀ with mode := u } :: cs) w := by
  refine wpSIn_of_wpIn rfl (wpIn_mono (hC none (true, false) (fun h => by cases h) C c cc fr H r hc hng ⟨fun _ => hp, fun h => by cases h⟩ hrun ρ a w hF hH) ?_)
  intro e a' w' ⟨ρ', p1, p2, p3, ⟨es, N, z, _, e1, e2, e3, e4⟩, p5⟩
  have := z rfl
  subst this
  cases e3
  have hd : dl fr = m := by unfold dl; rw [hm]; rfl
  have hg : r.2.1.get .h = some m := by
    have e2 : dl r.2.1 = dl fr := e2
    rw [hd] at e2
    unfold dl at e2
    cases hx : r.2.1.get .h with
    | none => rw [hx] at e2; exact (hmr.ne_nil e2.symm).elim
    | some v => rw [hx] at e2; exact congrArg some e2
  exact ⟨ρ', p1, p2, p3, e1, ⟨m, u, hg, hmr.mono p3.ext, rfl⟩, p5⟩

theorem codeS_succ {tbl : Nat → Option CFunc} {ng n : Nat} (hC : CodeOk P tbl ng (n + 1)) (hS : CodeSOk P tbl ng n) : CodeSOk P tbl ng (n + 1) := by
  intro C c cc fr H r hc hng hrun ρ a w hF hH c₀ cs u m hm hmr
  have plain : ∀ x : Code, ((codeP P C x).bind fun c => if c.plain then some c else none) = some cc → x.wpSIn (fz none) 0 P (PostS P C ρ H w a.defers c₀ cs r) a ({ c₀ with mode := u } :: cs) w := by
    intro x hx
    obtain ⟨c', h1, h2⟩ := Option.bind_eq_some_iff.1 hx
    split at h2
    · rename_i hp
      cases h2
      exact plainS_ok hC h1 hng hp hrun hF hH c₀ cs u m hm hmr
    · cases h2
  cases c with
  | seq x y =>
    simp only [codeS] at hc
    split at hc
    · rename_i cx cy hx hy
      cases hc
      have hrun : stepC tbl (run tbl n) (.seq cx cy) fr H = some r := hrun
      simp only [stepC] at hrun
      refine wpSIn_seq ?_
      split at hrun
      · rename_i fr1 H1 h1
        refine wpSIn_mono (hS C x cx fr H _ hx hng h1 ρ a w hF hH c₀ cs u m hm hmr) ?_
        intro e a' cs' w' hp
        obtain ⟨ρ', p1, p2, p3, p4, ⟨m', u', p5, p6, rfl⟩, p7⟩ := hp
        cases e with
        | normal =>
          show y.wpSIn _ _ _ _ _ _ _
          refine wpSIn_mono (hS C y cy fr1 H1 r hy hng hrun ρ' a' w' p1 p2 c₀ cs u' m' p5 p6) ?_
          intro e a'' cs'' w'' hq
          rw [p4] at hq
          exact hq.more p3
        | _ => exact p7.elim
      · rename_i hne
        refine wpSIn_mono (hS C x cx fr H _ hx hng hrun ρ a w hF hH c₀ cs u m hm hmr) ?_
        intro e a' cs' w' hp
        cases e with
        | normal =>
          obtain ⟨ex, fr1, H1⟩ := r
          obtain ⟨ρ', p1, p2, p3, p4, p5, p6⟩ := hp
          cases ex with
          | normal => exact absurd hrun (hne fr1 H1)
          | _ => exact p6.elim
        | _ => exact hp
    · cases hc
  | cond x c1 c2 =>
    simp only [codeS] at hc
    split at hc
    · rename_i x' hx
      cases hc
      have hrun : stepC tbl (run tbl n) (.cond x' ((codeS P C c1).getD stuckC) ((codeS P C c2).getD stuckC)) fr H = some r := hrun
      simp only [stepC] at hrun
      split at hrun
      · rename_i hb
        refine wpSIn_cond (cond_ok hF hH hx hb) ?_
        cases h1 : codeS P C c1 with
        | none => rw [h1] at hrun; exact (run_stuck hrun).elim
        | some d1 => rw [h1] at hrun; exact hS C c1 d1 fr H r h1 hng hrun ρ a w hF hH c₀ cs u m hm hmr
      · rename_i hb
        refine wpSIn_cond (cond_ok hF hH hx hb) ?_
        cases h2 : codeS P C c2 with
        | none => rw [h2] at hrun; exact (run_stuck hrun).elim
        | some d2 => rw [h2] at hrun; exact hS C c2 d2 fr H r h2 hng hrun ρ a w hF hH c₀ cs u m hm hmr
      · cases hrun
    · cases hc
  | region id ops d =>
    simp only [codeS] at hc
    split at hc
    · split at hc
      · cases hc
      · rename_i hd
        have hd : d = false := by simpa using hd
        subst hd
        obtain ⟨ci, hci, rfl⟩ := Option.map_eq_some_iff.1 hc
        have hrun : stepC tbl (run tbl n) (.region ci) fr H = some r := hrun
        simp only [stepC] at hrun
        refine wpSIn_region ?_
        have E : Env P C ρ (namesOf ops []) .nil fr a H w := ⟨hF, fun t j v hn _ => by simp [nameAt, namesOf] at hn, hH⟩
        split at hrun
        · rename_i ls' fr' H' he
          cases hrun
          exact opsS_ok _ _ _ _ _ _ _ _ _ _ _ _ _ hci E he hm hmr (fun e a' cs' w' hp => hp)
        · rename_i v fr' H' he
          cases hrun
          exact opsS_ok _ _ _ _ _ _ _ _ _ _ _ _ _ hci E he hm hmr (fun e a' cs' w' hp => hp)
        · cases hrun
    · exact plain (.region id ops d) (by simpa only [codeP] using hc)
  | _ => exact plain _ hc

theorem all_ok {tbl : Nat → Option CFunc} {ng : Nat} (hT : TblOk P ng tbl) : ∀ n, CodeOk P tbl ng n ∧ LoopOk P tbl ng n ∧ ScopeOk P tbl ng n ∧ CodeSOk P tbl ng n := by
  intro n
  induction n with
  | zero =>
    refine ⟨?_, ?_, ?_, ?_⟩
    · intro ro pl hrp C c cc fr H r _ _ _ h; cases h
    · intro ro pl hrp C c cc fr H r _ _ _ h; cases h
    · intro ro pl hrp C c cc d dd fr H r _ _ _ _ _ h; cases h
    · intro C c cc fr H r _ _ h; cases h
  | succ n ih =>
    obtain ⟨h1, h2, h3, h4⟩ := ih
    have c1 := code_succ hT h1 h4 h2 h3
    exact ⟨c1, fun ro pl hrp C c cc fr H r hc hng hpl hr ρ a w hF hH b k cs hro => loop_step h1 h2 hc hng hrp hpl hr hF hH b k cs hro,
      fun ro pl hrp C c cc d dd fr H r hc hd hng hpc hpd hr ρ a w hF hH b k cs hro => scope_step h1 h3 hc hd hng hrp hpc hpd hr hF hH b k cs hro, codeS_succ c1 h4⟩

/-- What the semantics says of a call is what the model does. -/
theorem callN_ok {tbl : Nat → Option CFunc} {ng : Nat} (hT : TblOk P ng tbl) (n : Nat) : CallOk P ng (callN tbl n) := call_of_code hT (all_ok hT n).1 (all_ok hT n).2.2.2

end
end Go.Dx
