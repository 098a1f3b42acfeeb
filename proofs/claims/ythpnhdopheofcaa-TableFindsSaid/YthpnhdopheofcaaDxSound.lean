/-
  Code and calls: what the semantics says is what the model does.
-/
import Derived.Test.YthpnhdopheofcaaDxStep
import Derived.Scope
set_option linter.unusedSimpArgs false
set_option linter.unusedVariables false
namespace Go.Dx

section
variable {P : Program} {C : Ctx} {ρ : Ren} {fr : Tr AV} {a : Act} {H H' : Heap} {w : World}

theorem findLabel_comp : ∀ {c : Code} {cc : CCode}, codeP P C c = some cc → ∀ l, (findLabel c l = none ∧ findLabelC cc l = none) ∨ ∃ r rr, findLabel c l = some r ∧ findLabelC cc l = some rr ∧ codeP P C r = some rr := by
  intro c
  induction c with
  | seq x y ihx ihy =>
    intro cc h l
    simp only [codeP] at h
    split at h
    · rename_i cx cy hx hy
      cases h
      simp only [findLabel, findLabelC]
      rcases ihx hx l with ⟨h1, h2⟩ | ⟨r, rr, h1, h2, h3⟩
      · rw [h1, h2]
        exact ihy hy l
      · rw [h1, h2]
        exact .inr ⟨_, _, rfl, rfl, by simp only [codeP, h3, hy]⟩
    · cases h
  | label l' =>
    intro cc h l
    simp only [codeP] at h
    cases h
    simp only [findLabel, findLabelC]
    by_cases e : l' = l
    · subst e; simp [codeP]
    · simp [e]
  | region id ops d =>
    intro cc h l
    simp only [codeP] at h
    unfold regionP at h
    left
    refine ⟨rfl, ?_⟩
    split at h <;> (simp only [Option.map_eq_some_iff] at h; obtain ⟨_, _, rfl⟩ := h; rfl)
  | cond x y z _ _ =>
    intro cc h l
    simp only [codeP] at h
    split at h
    · cases h; exact .inl ⟨rfl, rfl⟩
    · cases h
  | block i c _ =>
    intro cc h l
    simp only [codeP, Option.map_eq_some_iff] at h
    obtain ⟨_, _, rfl⟩ := h
    exact .inl ⟨rfl, rfl⟩
  | loop c _ =>
    intro cc h l
    simp only [codeP, Option.map_eq_some_iff] at h
    obtain ⟨_, _, rfl⟩ := h
    exact .inl ⟨rfl, rfl⟩
  | scope c _ =>
    intro cc h l
    simp only [codeP, Option.map_eq_some_iff] at h
    obtain ⟨_, _, rfl⟩ := h
    exact .inl ⟨rfl, rfl⟩
  | _ =>
    intro cc h l
    simp only [codeP] at h
    cases h <;> exact .inl ⟨rfl, rfl⟩

/-- Code, at a fuel. -/
def CodeOk (P : Program) (tbl : Nat → Option CFunc) (ng n : Nat) : Prop :=
  ∀ C c cc fr H r, codeP P C c = some cc → C.ng = ng → run tbl n cc fr H = some r → ∀ ρ (a : Act) w, FRel C ρ fr a.tmps → HRel C.ng ρ H w → c.wp P (Post C ρ H w a.defers r) a w

/-- A loop that is under way. -/
def LoopOk (P : Program) (tbl : Nat → Option CFunc) (ng n : Nat) : Prop :=
  ∀ C c cc fr H r, codeP P C c = some cc → C.ng = ng → run tbl n (.loop cc) fr H = some r → ∀ ρ (a : Act) w, FRel C ρ fr a.tmps → HRel C.ng ρ H w →
    ∀ (b : Frame) (k : List Item) (cs : List Frame), ∃ e a' w', Post C ρ H w a.defers r e a' w' ∧ Arrives P (lone (b.at a (.code c :: .inLoop c :: k)) cs w) b k cs e a' w'

/-- A scope that is under way. -/
def ScopeOk (P : Program) (tbl : Nat → Option CFunc) (ng n : Nat) : Prop :=
  ∀ C c cc d dd fr H r, codeP P C c = some cc → codeP P C d = some dd → C.ng = ng → run tbl n (.scope dd cc) fr H = some r → ∀ ρ (a : Act) w, FRel C ρ fr a.tmps → HRel C.ng ρ H w →
    ∀ (b : Frame) (k : List Item) (cs : List Frame), ∃ e a' w', Post C ρ H w a.defers r e a' w' ∧ Arrives P (lone (b.at a (.code d :: .inScope c :: k)) cs w) b k cs e a' w'

theorem Post.trans {r : Ex × Tr AV × Heap} {ρ' : Ren} {w' : World} {ds : List Deferred} {e : Exit} {a' : Act} {w'' : World} (hS : Step ρ H w ρ' H' w') (h : Post C ρ' H' w' ds r e a' w'') : Post C ρ H w ds r e a' w'' := by
  obtain ⟨ρ'', p1, p2, p3, p4, p5⟩ := h
  exact ⟨ρ'', p1, p2, hS.trans p3, p4, p5⟩

/-! Calls. -/
theorem enter_get : ∀ {vs : AV} {i : Nat} {t fr : Tr AV} {xs : List Value}, enterFr vs i t = some fr → RX ρ vs xs → ∀ q v, fr.get (key (q + 1)) = some v → (i ≤ q ∧ ∃ x, xs[q - i]? = some x ∧ RX ρ v [x]) ∨ t.get (key (q + 1)) = some v := by
  intro vs
  induction vs with
  | nil => intro i t fr xs h _ q v hq; simp only [enterFr] at h; cases h; exact .inr hq
  | cons a r _ ih =>
    intro i t fr xs h hx q v hq
    obtain ⟨x, ys, rfl, ha, hr⟩ := hx
    simp only [enterFr] at h
    rcases ih h hr q v hq with ⟨h1, y, h2, h3⟩ | h1
    · refine .inl ⟨by omega, y, ?_, h3⟩
      rw [show q - i = (q - (i + 1)) + 1 by omega]
      simpa using h2
    · rw [Tr.get_set] at h1
      split at h1
      · rename_i e
        have e := key_inj e
        cases h1
        refine .inl ⟨by omega, x, ?_, ha⟩
        rw [show q - i = 0 by omega]
        rfl
      · exact .inr h1
  | _ => intro i t fr xs h; simp only [enterFr] at h; cases h

theorem enter_ok {vs : AV} {args : Array Value} (h : enterFr vs 0 .leaf = some fr) (hx : RX ρ vs args.toList) : FRel C ρ fr (args ++ Array.replicate (C.n - args.size) undef) := by
  refine ⟨by simp; omega, ?_⟩
  intro t v _ hv
  rcases enter_get h hx t v hv with ⟨_, x, h2, h3⟩ | h1
  · refine ⟨x, ?_, h3⟩
    simp only [Nat.sub_zero, Array.getElem?_toList] at h2
    have hlt : t < args.size := by
      rcases Nat.lt_or_ge t args.size with h | h
      · exact h
      · rw [Array.getElem?_eq_none h] at h2; cases h2
    rw [Array.getElem?_append_left hlt]
    exact h2
  · rw [Tr.get_leaf] at h1; cases h1

theorem res_ok (hF : FRel C ρ fr a.tmps) (hH : HRel C.ng ρ H w) {r : ResultVar} {cr : CRes} (h : resP P C r = some cr) {v : AV} (hv : cr.ev fr H = some v) :
    ∃ x, ((match r with
      | .tmp t => pure (a.tmps.getD t undef)
      | .cell p t => do loadVar t (← asAddr (a.tmps.getD p undef)) : Sem Value)).run P w = .ok x w ∧ RX ρ v [x] := by
  have at_ : ∀ {t : Tmp} {x : Value}, a.tmps[t]? = some x → a.tmps.getD t undef = x := fun h => by simp [h]
  cases r with
  | tmp t =>
    simp only [resP] at h
    split at h
    · rename_i hf
      cases h
      obtain ⟨x, hx, hr⟩ := hF.far t v hf hv
      exact ⟨x, by simp only [at_ hx]; rfl, hr⟩
    · cases h
  | cell p t =>
    simp only [resP] at h
    split at h
    · cases h
    · rename_i hf
      simp only [Bool.not_eq_true', Bool.not_eq_false] at hf
      split at h
      · rename_i n hag hsz
        cases h
        obtain ⟨u, hu, g⟩ := bindO hv
        split at g
        · rename_i q off
          obtain ⟨cs, hcs, g2⟩ := bindO g
          cases g2
          obtain ⟨x, hx, hr⟩ := hF.far p _ hf hu
          obtain ⟨L, hL, rfl⟩ := hr.ptr_eq
          obtain ⟨xs, r1, r2, r3, _⟩ := hH.cells (P := P) hcs hL
          refine ⟨.agg xs.toArray, ?_, ⟨_, rfl, r3, by simpa using r2⟩⟩
          simp only [at_ hx]
          show (do let ad ← asAddr (.pointer (some ⟨L.b, L.base + off, none⟩)); loadVar t ad : Sem Value).run P w = _
          rw [runB (show (asAddr (.pointer (some ⟨L.b, L.base + off, none⟩))).run P w = .ok _ w from rfl)]
          unfold loadVar
          rw [runB (run_isAgg hag w)]
          simp only [if_true]
          rw [runB (run_sizeOf hsz w), runB (r1 w rfl)]
          rfl
        · cases g
      · rename_i n hag hsz
        cases h
        obtain ⟨u, hu, g⟩ := bindO hv
        split at g
        · rename_i q off
          obtain ⟨x, hx, hr⟩ := hF.far p _ hf hu
          obtain ⟨L, hL, rfl⟩ := hr.ptr_eq
          obtain ⟨z, r1, r2⟩ := hH.cell g hL
          refine ⟨z, ?_, r2⟩
          simp only [at_ hx]
          show (do let ad ← asAddr (.pointer (some ⟨L.b, L.base + off, none⟩)); loadVar t ad : Sem Value).run P w = _
          rw [runB (show (asAddr (.pointer (some ⟨L.b, L.base + off, none⟩))).run P w = .ok _ w from rfl)]
          unfold loadVar
          rw [runB (run_isAgg hag w)]
          simp only [Bool.false_eq_true, if_false]
          exact run_load r1
        · cases g
      · cases h

/-- What a result is read as. -/
def resSem (tm : Array Value) (r : ResultVar) : Sem Value :=
  match r with
  | .tmp t => pure (tm.getD t undef)
  | .cell p t => do loadVar t (← asAddr (tm.getD p undef))

theorem resL_ok (hF : FRel C ρ fr a.tmps) (hH : HRel C.ng ρ H w) : ∀ {l : List ResultVar} {rs : List CRes} {vs : AV}, mapO (resP P C) l = some rs → resultsL fr H rs = some vs →
    ∃ xs, (l.mapM (resSem a.tmps)).run P w = .ok xs w ∧ RX ρ vs xs ∧ vs.isList = true := by
  intro l
  induction l with
  | nil =>
    intro rs vs h hv
    simp only [mapO] at h
    cases h
    simp only [resultsL] at hv
    cases hv
    exact ⟨[], rfl, rfl, rfl⟩
  | cons r l ih =>
    intro rs vs h hv
    simp only [mapO] at h
    split at h
    · cases h
    · rename_i cr hcr
      split at h
      · cases h
      · rename_i crs hcrs
        cases h
        simp only [resultsL] at hv
        obtain ⟨u, hu, g1⟩ := bindO hv
        obtain ⟨us, hus, g2⟩ := bindO g1
        cases g2
        obtain ⟨x, hx, hr⟩ := res_ok hF hH hcr hu
        obtain ⟨xs, hxs, hrs, hl⟩ := ih hcrs hus
        refine ⟨x :: xs, ?_, ⟨x, xs, rfl, hr, hrs⟩, hl⟩
        rw [List.mapM_cons]
        have hx' : (resSem a.tmps r).run P w = .ok x w := by
          cases r <;> exact hx
        rw [runB hx', runB hxs]
        rfl

theorem results_ok (hF : FRel C ρ fr a.tmps) (hH : HRel C.ng ρ H w) {fn : Func} {rs : List CRes} {v : AV} (h : mapO (resP P C) fn.results.toList = some rs) (hv : resultsA fr H rs = some v) :
    ∃ x, (results fn a.tmps).run P w = .ok x w ∧ RX ρ v [x] := by
  unfold resultsA at hv
  obtain ⟨vs, hvs, g⟩ := bindO hv
  obtain ⟨xs, h1, h2, h3⟩ := resL_ok hF hH h hvs
  have hrun : (results fn a.tmps).run P w = .ok (if h : xs.toArray.size = 1 then xs.toArray[0] else .tuple xs.toArray) w := by
    show (fn.results.mapM (resSem a.tmps) >>= fun vs => (pure (if h : vs.size = 1 then vs[0] else .tuple vs) : Sem Value)).run P w = _
    rw [Array.mapM_eq_mapM_toList]
    have : (List.toArray <$> fn.results.toList.mapM (resSem a.tmps)).run P w = .ok xs.toArray w := by
      rw [map_eq_pure_bind]
      rw [runB h1]
      rfl
    rw [runB this]
    rfl
  refine ⟨_, hrun, ?_⟩
  have hlen := h2.len h3
  split at g
  · rename_i u
    cases g
    obtain ⟨x, ys, rfl, hx, hy⟩ := h2
    have : ys = [] := hy
    subst this
    simpa using hx
  · rename_i hne
    cases g
    have hl1 : xs.toArray.size ≠ 1 := by
      intro e
      have e : xs.length = 1 := by simpa using e
      cases vs with
      | nil => rw [show xs = [] from h2] at e; cases e
      | cons u r =>
        cases r with
        | nil => exact hne u rfl
        | cons u' r' => simp [AV.len] at hlen; omega
        | _ => simp [AV.isList] at h3
      | _ => simp [AV.isList] at h3
    rw [dif_neg hl1]
    exact ⟨_, rfl, h3, by simpa using h2⟩

/-- Calls at a fuel, by code at that fuel. -/
theorem call_of_code {tbl : Nat → Option CFunc} {ng n : Nat} (hT : TblOk P ng tbl) (hc : CodeOk P tbl ng n) : CallOk P ng (doCall tbl (run tbl n)) := by
  intro f as H r H' hev
  unfold doCall at hev
  split at hev
  · cases hev
  rename_i cf h1
  have hfn := hT.fn f cf h1
  unfold FnOk at hfn
  split at hev
  · rename_i v hk
    rw [hk] at hfn
    simp only at hfn
    obtain ⟨hex, x, hx0, hcall⟩ := hfn
    refine ⟨hex, ?_⟩
    split at hev
    · cases hev
      intro ρ w args hH hx hl
      have hargs : args = #[] := by have : args.toList = [] := hx; cases args; simp_all
      subst hargs
      refine Calls.mono (hcall w) ?_
      intro e w' ⟨he, e1, e2, e3, e4, e5⟩
      subst he
      refine ⟨ρ, ⟨fun p o L h1 h2 h3 => (hH.objs p o L h1 h2 h3).same (e5 _ (hH.bound p L h3)), hH.inj, fun p L hp => Nat.lt_of_lt_of_le (hH.bound p L hp) e4, hH.fresh, hH.globals, hH.wf⟩,
        ⟨Ext.refl ρ, e1, e2, e3, e4, fun b hb _ => e5 b hb, fun p L h1 h2 => .inr ⟨p, L, h1, h2, rfl⟩, Nat.le_refl _, fun p L h1 h2 => (by rw [h1] at h2; cases h2), fun _ _ h => h, fun _ _ _ h => ⟨h, fun L _ hb => e5 _ hb⟩⟩, hx0 ρ⟩
    · cases hev
  rename_i hk
  rw [hk] at hfn
  simp only at hfn
  split at hev
  · cases hev
  rename_i fr h2
  have g2 := hev
  obtain ⟨fn, C, k1, k2, k3, k4, k5, k6⟩ := hfn
  refine ⟨⟨fn, k1, k2, k3⟩, ?_⟩
  intro ρ w args hH hx hl
  unfold funcP at k6
  split at k6
  · cases k6
  · rename_i c hb
    split at k6
    · rename_i cc rs hcc hrs
      cases k6
      refine calls_of_wp k1 hb ?_
      simp only at g2
      have hF : FRel C ρ fr (args ++ Array.replicate (fn.ntmps - args.size) undef) := by rw [← k5]; exact enter_ok h2 hx
      have main : ∀ q, run tbl n cc fr H = some q → c.wp P (Post C ρ H w [] q) { tmps := args ++ Array.replicate (fn.ntmps - args.size) undef, defers := [] } w :=
        fun q hq => hc C c cc fr H q hcc k4 hq ρ { tmps := args ++ Array.replicate (fn.ntmps - args.size) undef, defers := [] } w hF (by rw [k4]; exact hH)
      have fin : ∀ (ex : Ex) fr1 H1, (ex = .normal ∨ ex = .ret) → run tbl n cc fr H = some (ex, fr1, H1) → (resultsA fr1 H1 rs).map (fun v => (CR.ret v, H1)) = some (r, H') →
          c.wp P (bodyPost P fn fun e w' => ∃ ρ', HRel ng ρ' H' w' ∧ Step ρ H w ρ' H' w' ∧ EndRel ρ' r e) { tmps := args ++ Array.replicate (fn.ntmps - args.size) undef, defers := [] } w := by
        intro ex fr1 H1 hex hq hres
        obtain ⟨v, hv, e⟩ := Option.map_eq_some_iff.1 hres
        cases e
        refine wp_mono (main _ hq) ?_
        intro e a' w' ⟨ρ', p1, p2, p3, p4, p5⟩
        obtain ⟨x, hx1, hx2⟩ := results_ok (P := P) p1 p2 hrs hv
        have done : a'.defers = [] ∧ ∃ v', (results fn a'.tmps).run P w' = .ok v' w' ∧ ∃ ρ'', HRel ng ρ'' H' w' ∧ Step ρ H w ρ'' H' w' ∧ EndRel ρ'' (.ret v) (.returned v') :=
          ⟨p4, x, hx1, ρ', by rw [← k4]; exact p2, p3, hx2⟩
        rcases hex with rfl | rfl
        · cases e with
          | normal => exact done
          | _ => exact p5.elim
        · cases e with
          | ret => exact done
          | _ => exact p5.elim
      cases hq : run tbl n cc fr H with
      | none => rw [hq] at g2; cases g2
      | some q =>
        obtain ⟨ex, fr1, H1⟩ := q
        rw [hq] at g2
        cases ex with
        | normal => exact fin _ fr1 H1 (.inl rfl) hq g2
        | ret => exact fin _ fr1 H1 (.inr rfl) hq g2
        | pan v =>
          cases g2
          refine wp_mono (main _ hq) ?_
          intro e a' w' ⟨ρ', p1, p2, p3, p4, p5⟩
          cases e with
          | panic ch =>
            obtain ⟨x, rfl, hx⟩ := p5
            exact ⟨p4, ρ', by rw [← k4]; exact p2, p3, x, rfl, hx⟩
          | _ => exact p5.elim
        | exit i => cases g2
        | goto l => cases g2
    · cases k6

/-! Code. -/
theorem cond_ok (hF : FRel C ρ fr a.tmps) (hH : HRel C.ng ρ H w) {c : Operand} {c' : Opd} {b : Bool} (h : opd C [] c = some c') (hb : condV fr c' = some b) : a.eval c = .bool b := by
  unfold condV at hb
  split at hb
  · rename_i b' he
    cases hb
    exact (opd_rel (ls := .nil) hF (fun t j v hn _ => by simp [nameAt] at hn) hH.globals h he).bool_eq
  · cases hb

theorem loop_step {tbl : Nat → Option CFunc} {ng n : Nat} (hC : CodeOk P tbl ng n) (hL : LoopOk P tbl ng n) {c : Code} {d : CCode} {r : Ex × Tr AV × Heap} (hd : codeP P C c = some d) (hng : C.ng = ng)
    (hrun : stepC tbl (run tbl n) (.loop d) fr H = some r) (hF : FRel C ρ fr a.tmps) (hH : HRel C.ng ρ H w) (b : Frame) (k : List Item) (cs : List Frame) :
    ∃ e a' w', Post C ρ H w a.defers r e a' w' ∧ Arrives P (lone (b.at a (.code c :: .inLoop c :: k)) cs w) b k cs e a' w' := by
  simp only [stepC] at hrun
  split at hrun
  · rename_i fr1 H1 h1
    obtain ⟨e, a', w', hp, harr⟩ := hC C c d fr H _ hd hng h1 ρ a w hF hH b (.inLoop c :: k) cs
    obtain ⟨ρ', p1, p2, p3, p4, p5⟩ := hp
    cases e with
    | normal =>
      obtain ⟨e2, a2, w2, hp2, harr2⟩ := hL C c d fr1 H1 r hd hng hrun ρ' a' w' p1 p2 b k cs
      rw [p4] at hp2
      exact ⟨e2, a2, w2, hp2.trans p3, .of_steps (Steps.trans harr (.one step_inLoop)) harr2⟩
    | _ => exact p5.elim
  · rename_i hne
    obtain ⟨e, a', w', hp, harr⟩ := hC C c d fr H _ hd hng hrun ρ a w hF hH b (.inLoop c :: k) cs
    have hnn : e ≠ .normal := by
      intro e0
      subst e0
      obtain ⟨ex, fr1, H1⟩ := r
      obtain ⟨ρ', p1, p2, p3, p4, p5⟩ := hp
      cases ex with
      | normal => exact absurd hrun (hne fr1 H1)
      | _ => exact p5.elim
    exact ⟨e, a', w', hp, .pass (x := .inLoop c) rfl (fun _ _ => .inl hnn) harr⟩

theorem scope_step {tbl : Nat → Option CFunc} {ng n : Nat} (hC : CodeOk P tbl ng n) (hS : ScopeOk P tbl ng n) {c d : Code} {cc dd : CCode} {r : Ex × Tr AV × Heap} (hc : codeP P C c = some cc) (hd : codeP P C d = some dd) (hng : C.ng = ng)
    (hrun : stepC tbl (run tbl n) (.scope dd cc) fr H = some r) (hF : FRel C ρ fr a.tmps) (hH : HRel C.ng ρ H w) (b : Frame) (k : List Item) (cs : List Frame) :
    ∃ e a' w', Post C ρ H w a.defers r e a' w' ∧ Arrives P (lone (b.at a (.code d :: .inScope c :: k)) cs w) b k cs e a' w' := by
  simp only [stepC] at hrun
  have out : ∀ q, run tbl n dd fr H = some q → ∃ e a' w', Post C ρ H w a.defers q e a' w' ∧ Arrives P (lone (b.at a (.code d :: .inScope c :: k)) cs w) b (.inScope c :: k) cs e a' w' :=
    fun q hq => hC C d dd fr H q hd hng hq ρ a w hF hH b (.inScope c :: k) cs
  split at hrun
  · rename_i l fr1 H1 h1
    obtain ⟨e, a', w', hp, harr⟩ := out _ h1
    obtain ⟨ρ', p1, p2, p3, p4, p5⟩ := hp
    cases e with
    | goto l' =>
      have p5 : l = l' := p5
      subst p5
      rcases findLabel_comp hc l with ⟨f1, f2⟩ | ⟨x, y, f1, f2, f3⟩
      · rw [f2] at hrun
        cases hrun
        refine ⟨.goto l, a', w', ⟨ρ', p1, p2, p3, p4, rfl⟩, ?_⟩
        intro k' hk
        exact harr k' (by simp [gotoIn, f1, hk])
      · rw [f2] at hrun
        obtain ⟨e2, a2, w2, hp2, harr2⟩ := hS C c cc x y fr1 H1 r hc f3 hng hrun ρ' a' w' p1 p2 b k cs
        rw [p4] at hp2
        exact ⟨e2, a2, w2, hp2.trans p3, .of_steps (harr _ (by simp [gotoIn, f1])) harr2⟩
    | _ => exact p5.elim
  · rename_i hne
    obtain ⟨e, a', w', hp, harr⟩ := out _ hrun
    cases e with
    | normal => exact ⟨.normal, a', w', hp, Steps.trans harr (.one step_inScope)⟩
    | exit id => exact ⟨.exit id, a', w', hp, fun k' hk => harr k' (by simp [exitTo, hk])⟩
    | goto l =>
      exfalso
      obtain ⟨ex, fr1, H1⟩ := r
      obtain ⟨ρ', p1, p2, p3, p4, p5⟩ := hp
      cases ex with
      | goto l' => exact absurd hrun (hne l' fr1 H1)
      | _ => exact p5.elim
    | ret => exact ⟨_, a', w', hp, harr⟩
    | panic ch => exact ⟨_, a', w', hp, harr⟩
    | outgrown => exact ⟨_, a', w', hp, harr⟩

theorem code_succ {tbl : Nat → Option CFunc} {ng n : Nat} (hT : TblOk P ng tbl) (hC : CodeOk P tbl ng n) (hL : LoopOk P tbl ng n) (hS : ScopeOk P tbl ng n) : CodeOk P tbl ng (n + 1) := by
  intro C c cc fr H r hc hng hrun ρ a w hF hH
  have hcall := call_of_code hT hC
  rw [← hng] at hcall
  have hrun : stepC tbl (run tbl n) cc fr H = some r := hrun
  cases c with
  | skip =>
    simp only [codeP] at hc; cases hc
    cases hrun
    exact wp_skip ⟨ρ, hF, hH, Step.refl ρ H w, rfl, trivial⟩
  | label l =>
    simp only [codeP] at hc; cases hc
    cases hrun
    exact wp_label ⟨ρ, hF, hH, Step.refl ρ H w, rfl, trivial⟩
  | exit i =>
    simp only [codeP] at hc; cases hc
    cases hrun
    exact wp_exit ⟨ρ, hF, hH, Step.refl ρ H w, rfl, rfl⟩
  | goto l =>
    simp only [codeP] at hc; cases hc
    cases hrun
    exact wp_goto ⟨ρ, hF, hH, Step.refl ρ H w, rfl, rfl⟩
  | ret =>
    simp only [codeP] at hc; cases hc
    cases hrun
    exact wp_ret ⟨ρ, hF, hH, Step.refl ρ H w, rfl, trivial⟩
  | region id ops d =>
    simp only [codeP] at hc
    unfold regionP at hc
    split at hc
    · rename_i hd
      simp only [Bool.not_eq_true'] at hd
      subst hd
      obtain ⟨cs, hcs, rfl⟩ := Option.map_eq_some_iff.1 hc
      simp only [stepC] at hrun
      refine wp_region ?_
      have E : Env P C ρ (namesOf ops []) .nil fr a H w := ⟨hF, fun t j v hn _ => by simp [nameAt, namesOf] at hn, hH⟩
      split at hrun
      · rename_i ls' fr' H' he
        cases hrun
        exact region_ok hcall _ _ _ _ _ _ _ _ _ _ _ hcs E he (fun e a' w' hp => hp)
      · rename_i v fr' H' he
        cases hrun
        exact region_ok hcall _ _ _ _ _ _ _ _ _ _ _ hcs E he (fun e a' w' hp => hp)
      · cases hrun
    · rename_i hd
      simp only [Bool.not_eq_true', Bool.not_eq_false] at hd
      subst hd
      obtain ⟨ds, hds, rfl⟩ := Option.map_eq_some_iff.1 hc
      simp only [stepC] at hrun
      refine wp_region_any hT.mixed ?_
      split at hrun
      · rename_i fr' H' he
        cases hrun
        exact draw_ok hcall hds hF hH he _ (fun e a' w' hp => hp)
      · cases hrun
  | seq x y =>
    simp only [codeP] at hc
    split at hc
    · rename_i cx cy hx hy
      cases hc
      simp only [stepC] at hrun
      refine wp_seq ?_
      split at hrun
      · rename_i fr1 H1 h1
        refine wp_mono (hC C x cx fr H _ hx hng h1 ρ a w hF hH) ?_
        intro e a' w' hp
        obtain ⟨ρ', p1, p2, p3, p4, p5⟩ := hp
        cases e with
        | normal =>
          refine wp_mono (hC C y cy fr1 H1 r hy hng hrun ρ' a' w' p1 p2) ?_
          intro e a'' w'' hq
          rw [p4] at hq
          exact hq.trans p3
        | _ => exact p5.elim
      · rename_i hne
        refine wp_mono (hC C x cx fr H _ hx hng hrun ρ a w hF hH) ?_
        intro e a' w' hp
        cases e with
        | normal =>
          obtain ⟨ex, fr1, H1⟩ := r
          obtain ⟨ρ', p1, p2, p3, p4, p5⟩ := hp
          cases ex with
          | normal => exact absurd hrun (hne fr1 H1)
          | _ => exact p5.elim
        | _ => exact hp
    · cases hc
  | cond x c1 c2 =>
    simp only [codeP] at hc
    split at hc
    · rename_i x' d1 d2 hx h1 h2
      cases hc
      simp only [stepC] at hrun
      split at hrun
      · rename_i hb
        exact wp_cond_true (cond_ok hF hH hx hb) (hC C c1 d1 fr H r h1 hng hrun ρ a w hF hH)
      · rename_i hb
        exact wp_cond_false (cond_ok hF hH hx hb) (hC C c2 d2 fr H r h2 hng hrun ρ a w hF hH)
      · cases hrun
    · cases hc
  | block id c =>
    simp only [codeP] at hc
    obtain ⟨d, hd, rfl⟩ := Option.map_eq_some_iff.1 hc
    simp only [stepC] at hrun
    refine wp_block ?_
    split at hrun
    · rename_i e1 fr1 H1 h1
      cases hrun
      refine wp_mono (hC C c d fr H _ hd hng h1 ρ a w hF hH) ?_
      intro e a' w' hp
      obtain ⟨ρ', p1, p2, p3, p4, p5⟩ := hp
      cases e1 with
      | exit i =>
        cases e with
        | exit j =>
          have p5 : i = j := p5
          subst p5
          simp only [Exit.inBlock, atBlock]
          split
          · exact ⟨ρ', p1, p2, p3, p4, trivial⟩
          · exact ⟨ρ', p1, p2, p3, p4, rfl⟩
        | _ => exact p5.elim
      | _ => cases e <;> first | exact p5.elim | exact ⟨ρ', p1, p2, p3, p4, p5⟩
    · cases hrun
  | loop c =>
    simp only [codeP] at hc
    obtain ⟨d, hd, rfl⟩ := Option.map_eq_some_iff.1 hc
    intro b k cs
    suffices h : ∃ e a' w', Post C ρ H w a.defers r e a' w' ∧ Arrives P (lone (b.at a (.code c :: .inLoop c :: k)) cs w) b k cs e a' w' by
      obtain ⟨e, a', w', h1, h2⟩ := h
      exact ⟨e, a', w', h1, .of_steps (.one step_loop) h2⟩
    exact loop_step hC hL hd hng hrun hF hH b k cs
  | scope c =>
    simp only [codeP] at hc
    obtain ⟨d, hd, rfl⟩ := Option.map_eq_some_iff.1 hc
    intro b k cs
    suffices h : ∃ e a' w', Post C ρ H w a.defers r e a' w' ∧ Arrives P (lone (b.at a (.code c :: .inScope c :: k)) cs w) b k cs e a' w' by
      obtain ⟨e, a', w', h1, h2⟩ := h
      exact ⟨e, a', w', h1, .of_steps (.one step_scope) h2⟩
    exact scope_step hC hS hd hd hng hrun hF hH b k cs
  | rangeFunc f ps x y => simp only [codeP] at hc; cases hc
  | refuse s => simp only [codeP] at hc; cases hc

theorem all_ok {tbl : Nat → Option CFunc} {ng : Nat} (hT : TblOk P ng tbl) : ∀ n, CodeOk P tbl ng n ∧ LoopOk P tbl ng n ∧ ScopeOk P tbl ng n := by
  intro n
  induction n with
  | zero =>
    refine ⟨?_, ?_, ?_⟩
    · intro C c cc fr H r _ _ h; cases h
    · intro C c cc fr H r _ _ h; cases h
    · intro C c cc d dd fr H r _ _ _ h; cases h
  | succ n ih =>
    obtain ⟨h1, h2, h3⟩ := ih
    exact ⟨code_succ hT h1 h2 h3, fun C c cc fr H r hc hng hr ρ a w hF hH b k cs => loop_step h1 h2 hc hng hr hF hH b k cs,
      fun C c cc d dd fr H r hc hd hng hr ρ a w hF hH b k cs => scope_step h1 h3 hc hd hng hr hF hH b k cs⟩

/-- What the semantics says of a call is what the model does. -/
theorem callN_ok {tbl : Nat → Option CFunc} {ng : Nat} (hT : TblOk P ng tbl) (n : Nat) : CallOk P ng (callN tbl n) := call_of_code hT (all_ok hT n).1

end
end Go.Dx
