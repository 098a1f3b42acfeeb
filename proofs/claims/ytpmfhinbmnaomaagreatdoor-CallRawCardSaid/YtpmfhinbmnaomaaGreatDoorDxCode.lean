/-
  Code and calls: what the semantics says is what the model does. First part: what is to be shown.
-/
import Derived.Test.YtpmfhinbmnaomaaGreatDoorDxStep
import Derived.Test.YtpmfhinbmnaomaaGreatDoorDxLe
import Derived.Scope
import Derived.RangeFuncRecord
import Derived.CallsIn
import Derived.OrdersIn
import Derived.RecoverIn
set_option linter.unusedSimpArgs false
set_option linter.unusedVariables false
set_option linter.unusedSectionVars false
namespace Go.Dx

section
variable {pl : PL}
variable {P : Program} {C : Ctx} {ρ : Ren} {fr : Tr AV} {a : Act} {H H' : Heap} {w : World}

theorem findLabel_comp : ∀ {c : Code} {cc : CCode}, codeP P C c = some cc → ∀ l, (findLabel c l = none ∧ findLabelC cc l = none) ∨ ∃ r rr, findLabel c l = some r ∧ findLabelC cc l = some rr ∧ codeP P C r = some rr := by
  intro c
  induction c with
  | seq x y ihx ihy =>
    intro cc h l
    simp only [codeP] at h
    split at h
    · rename_i cx cy hx hy
      cases h
      simp only [findLabel, findLabelC]
      rcases ihx hx l with ⟨h1, h2⟩ | ⟨r, rr, h1, h2, h3⟩
      · rw [h1, h2]
        exact ihy hy l
      · rw [h1, h2]
        exact .inr ⟨_, _, rfl, rfl, by simp only [codeP, h3, hy]⟩
    · cases h
  | label l' =>
    intro cc h l
    simp only [codeP] at h
    cases h
    simp only [findLabel, findLabelC]
    by_cases e : l' = l
    · subst e; simp [codeP]
    · simp [e]
  | region id ops d =>
    intro cc h l
    simp only [codeP] at h
    unfold regionP at h
    left
    refine ⟨rfl, ?_⟩
    split at h <;> (simp only [Option.map_eq_some_iff] at h; obtain ⟨_, _, rfl⟩ := h; rfl)
  | cond x y z _ _ =>
    intro cc h l
    simp only [codeP] at h
    split at h
    · cases h; exact .inl ⟨rfl, rfl⟩
    · cases h
  | rangeFunc f ps x y _ _ =>
    intro cc h l
    simp only [codeP] at h
    split at h
    · split at h
      · cases h; exact .inl ⟨rfl, rfl⟩
      · cases h
    · cases h
  | block i c _ =>
    intro cc h l
    simp only [codeP, Option.map_eq_some_iff] at h
    obtain ⟨_, _, rfl⟩ := h
    exact .inl ⟨rfl, rfl⟩
  | loop c _ =>
    intro cc h l
    simp only [codeP, Option.map_eq_some_iff] at h
    obtain ⟨_, _, rfl⟩ := h
    exact .inl ⟨rfl, rfl⟩
  | scope c _ =>
    intro cc h l
    simp only [codeP, Option.map_eq_some_iff] at h
    obtain ⟨_, _, rfl⟩ := h
    exact .inl ⟨rfl, rfl⟩
  | _ =>
    intro cc h l
    simp only [codeP] at h
    cases h <;> exact .inl ⟨rfl, rfl⟩

theorem findLabel_plain : ∀ {c : CCode} {l : Nat} {r : CCode}, c.plain = true → findLabelC c l = some r → r.plain = true := by
  intro c
  induction c with
  | seq a b iha ihb =>
    intro l r hp h
    simp only [CCode.plain, Bool.and_eq_true] at hp
    simp only [findLabelC] at h
    split at h
    · rename_i rest h1
      cases h
      simp only [CCode.plain, Bool.and_eq_true]
      exact ⟨iha hp.1 h1, hp.2⟩
    · exact ihb hp.2 h
  | label l' =>
    intro l r hp h
    simp only [findLabelC] at h
    split at h
    · cases h; rfl
    · cases h
  | _ => intro l r hp h; simp only [findLabelC] at h; cases h

theorem findLabel_noDef : ∀ {c : CCode} {l : Nat} {r : CCode}, c.noDef = true → findLabelC c l = some r → r.noDef = true := by
  intro c
  induction c with
  | seq a b iha ihb =>
    intro l r hp h
    simp only [CCode.noDef, Bool.and_eq_true] at hp
    simp only [findLabelC] at h
    split at h
    · rename_i rest h1
      cases h
      simp only [CCode.noDef, Bool.and_eq_true]
      exact ⟨iha hp.1 h1, hp.2⟩
    · exact ihb hp.2 h
  | label l' =>
    intro l r hp h
    simp only [findLabelC] at h
    split at h
    · cases h; rfl
    · cases h
  | _ => intro l r hp h; simp only [findLabelC] at h; cases h
theorem Fits.label {pl : PL} {c : CCode} {l : Nat} {r : CCode} (h : Fits pl c) (hf : findLabelC c l = some r) : Fits pl r := ⟨fun e => findLabel_plain (h.p e) hf, fun e => findLabel_noDef (h.d e) hf⟩

theorem run_stuck {tbl : Nat → Option CFunc} {n : Nat} {r : Ex × Tr AV × Heap} (h : run tbl n stuckC fr H = some r) : False := by
  cases n with
  | zero => cases h
  | succ n => cases h

/-- Code, at a fuel. -/
def CodeOk (P : Program) (tbl : Nat → Option CFunc) (ng n : Nat) : Prop :=
  ∀ (ro : Option Nat) (pl : PL), (ro.isSome = true → pl.1 = true) → ∀ C c cc fr H r, codeP P C c = some cc → C.ng = ng → Fits pl cc → run tbl n cc fr H = some r → ∀ ρ (a : Act) w, FRel C ρ fr a.tmps → HRel P C.ng ρ H w → c.wpIn (fz ro) 0 P (Post pl P C ρ H w a.defers (dl fr) r) a w

/-- A loop that is under way. -/
def LoopOk (P : Program) (tbl : Nat → Option CFunc) (ng n : Nat) : Prop :=
  ∀ (ro : Option Nat) (pl : PL), (ro.isSome = true → pl.1 = true) → ∀ C c cc fr H r, codeP P C c = some cc → C.ng = ng → Fits pl cc → run tbl n (.loop cc) fr H = some r → ∀ ρ (a : Act) w, FRel C ρ fr a.tmps → HRel P C.ng ρ H w →
    ∀ (b : Frame) (k : List Item) (cs : List Frame), b.roundOf = ro → ∃ e a' w', Post pl P C ρ H w a.defers (dl fr) r e a' w' ∧ ArrivesIn (Machine.fenced P (fz ro)) P (lone (b.atR a (.code c :: .inLoop c :: k)) cs w) b k cs e a' w'

/-- A scope that is under way. -/
def ScopeOk (P : Program) (tbl : Nat → Option CFunc) (ng n : Nat) : Prop :=
  ∀ (ro : Option Nat) (pl : PL), (ro.isSome = true → pl.1 = true) → ∀ C c cc d dd fr H r, codeP P C c = some cc → codeP P C d = some dd → C.ng = ng → Fits pl cc → Fits pl dd → run tbl n (.scope dd cc) fr H = some r → ∀ ρ (a : Act) w, FRel C ρ fr a.tmps → HRel P C.ng ρ H w →
    ∀ (b : Frame) (k : List Item) (cs : List Frame), b.roundOf = ro → ∃ e a' w', Post pl P C ρ H w a.defers (dl fr) r e a' w' ∧ ArrivesIn (Machine.fenced P (fz ro)) P (lone (b.atR a (.code d :: .inScope c :: k)) cs w) b k cs e a' w'

section steps
variable {b : Frame} {k : List Item} {cs : List Frame}
theorem stepR_scope {c : Code} : step P (lone (b.atR a (.code (.scope c) :: k)) cs w) = .next (lone (b.atR a (.code c :: .inScope c :: k)) cs w) :=
  step_lone_go (by simp [stepG, stepG.exec, Frame.atR])
theorem stepR_inScope {c : Code} : step P (lone (b.atR a (.inScope c :: k)) cs w) = .next (lone (b.atR a k) cs w) :=
  step_lone_go (by simp [stepG, stepG.exec, Frame.atR])
theorem oneR {ro : Option Nat} {x : Item} {m' : Machine} (ha : (b.atR a (x :: k)).about P w = none) (h : step P (lone (b.atR a (x :: k)) cs w) = .next m') : StepsIn (Machine.fenced P (fz ro)) P (lone (b.atR a (x :: k)) cs w) m' :=
  .one (fenced_calm (n := 0) (F := fz ro) trivial (room_fz _ _) ha) h
end steps

theorem Post.trans {pl : PL} {r : Ex × Tr AV × Heap} {ρ' : Ren} {w' : World} {ds : List Deferred} {L : AV} {e : Exit} {a' : Act} {w'' : World} (hS : Step ρ H w ρ' H' w') (h : Post pl P C ρ' H' w' ds L r e a' w'') : Post pl P C ρ H w ds L r e a' w'' := by
  obtain ⟨ρ'', p1, p2, p3, p4, p5⟩ := h
  exact ⟨ρ'', p1, p2, hS.trans p3, p4.base hS.size, p5⟩

theorem Post.more {pl : PL} {r : Ex × Tr AV × Heap} {ρ' : Ren} {w' : World} {ds ds1 : List Deferred} {L L1 : AV} {e : Exit} {a' : Act} {w'' : World} (hS : Step ρ H w ρ' H' w') (hm : Marks pl w ρ' H' w' ds L ds1 L1) (h : Post pl P C ρ' H' w' ds1 L1 r e a' w'') : Post pl P C ρ H w ds L r e a' w'' := by
  obtain ⟨ρ'', p1, p2, p3, p4, p5⟩ := h
  exact ⟨ρ'', p1, p2, hS.trans p3, hm.trans hS.size p3 p4, p5⟩

/-- A piece of code that was not compiled by rule: what stands for it does what it does. -/
def PieceOk (P : Program) (C : Ctx) (c : Code) (cc : CCode) : Prop :=
  ∀ tbl n, CodeOk P tbl C.ng n → ∀ (ro : Option Nat) (pl : PL), (ro.isSome = true → pl.1 = true) → ∀ fr H r, Fits pl cc → run tbl n cc fr H = some r → ∀ ρ (a : Act) w, FRel C ρ fr a.tmps → HRel P C.ng ρ H w → c.wpIn (fz ro) 0 P (Post pl P C ρ H w a.defers (dl fr) r) a w

/-- A function's code: compiled by rule, but for pieces. -/
inductive CompO (P : Program) (C : Ctx) : Code → CCode → Prop where
  | base {c cc} : codeP P C c = some cc → CompO P C c cc
  | piece {c cc} : PieceOk P C c cc → CompO P C c cc
  | seq {a b x y} : CompO P C a x → CompO P C b y → CompO P C (.seq a b) (.seq x y)
/-- A function is what was compiled. -/
def FuncO (P : Program) (C : Ctx) (fn : Func) (cf : CFunc) : Prop :=
  ∃ c cc rs, fn.body = some c ∧ CompO P C c cc ∧ mapO (resP P C) fn.results.toList = some rs ∧ cf = ⟨cc, rs, if cc.noDef then none else some .dfr⟩
theorem FuncO.of {P : Program} {C : Ctx} {fn : Func} {cf : CFunc} (h : funcP P C fn = some cf) : FuncO P C fn cf := by
  unfold funcP at h
  split at h
  · cases h
  · rename_i c hb
    split at h
    · rename_i cc rs hcc hrs
      cases h
      exact ⟨c, cc, rs, hb, .base hcc, hrs, rfl⟩
    · cases h

/-- One that changes memory does what is said of it. -/
def ActOk (P : Program) (ng : Nat) (f k : Nat) : Prop :=
  (∃ fn, P.funcs[f]? = some fn ∧ fn.body.isSome = true ∧ fn.name ≠ "runtime.NumGoroutine") ∧ ∀ (as v : AV) (H H' : Heap), actF k as H = some (v, H') → ∀ (ρ : Ren) (w : World) (args : Array Value), HRel P ng ρ H w → RX ρ as args.toList → as.isList = true →
    Calls P f args w fun e w' => ∃ x ρ', e = .returned x ∧ RX ρ' v [x] ∧ HRel P ng ρ' H' w' ∧ Step ρ H w ρ' H' w'

/-- A function of the program is what was compiled. -/
def FnOk (P : Program) (ng : Nat) (f : Nat) (cf : CFunc) : Prop :=
  match cf.konst with
  | some (.val v) => KOk P f v
  | some (.nat g) => NatOk P ng f g
  | some (.act k) => ActOk P ng f k
  | none => ∃ fn C, P.funcs[f]? = some fn ∧ fn.body.isSome = true ∧ fn.name ≠ "runtime.NumGoroutine" ∧ C.ng = ng ∧ C.n = fn.ntmps ∧ FuncO P C fn cf
  | some .dfr => ∃ fn C, P.funcs[f]? = some fn ∧ fn.body.isSome = true ∧ fn.name ≠ "runtime.NumGoroutine" ∧ C.ng = ng ∧ C.n = fn.ntmps ∧ FuncO P C fn cf
  | some .recov => ∃ fn C, P.funcs[f]? = some fn ∧ fn.body.isSome = true ∧ fn.name ≠ "runtime.NumGoroutine" ∧ C.ng = ng ∧ C.n = fn.ntmps ∧ funcS P C fn = some cf

/-- What a table says of a program's functions. -/
structure TblOk (P : Program) (ng : Nat) (tbl : Nat → Option CFunc) : Prop where
  fn : ∀ f cf, tbl f = some cf → FnOk P ng f cf
  mixed : P.follows .mixedOrders = true

theorem CodeOk.le {P : Program} {tbl : Nat → Option CFunc} {ng m n : Nat} (h : CodeOk P tbl ng n) (hm : m ≤ n) : CodeOk P tbl ng m :=
  fun ro pl hrp C c cc fr H r hc hng hpl hr ρ a w hF hH => h ro pl hrp C c cc fr H r hc hng hpl (run_le hm _ _ _ _ hr) ρ a w hF hH
theorem CompO.ok {P : Program} {C : Ctx} {c : Code} {cc : CCode} (h : CompO P C c cc) : PieceOk P C c cc := by
  induction h with
  | base h => exact fun tbl n hC ro pl hrp fr H r hpl hr ρ a w hF hH => hC ro pl hrp C _ _ fr H r h rfl hpl hr ρ a w hF hH
  | piece h => exact h
  | seq _ _ ihx ihy =>
    intro tbl n hC ro pl hrp fr H r hpl hrun ρ a w hF hH
    cases n with
    | zero => cases hrun
    | succ n =>
      have hC' := hC.le (Nat.le_succ n)
      simp only [run, stepC] at hrun
      refine wpIn_seq ?_
      split at hrun
      · rename_i fr1 H1 h1
        refine wpIn_mono (ihx tbl n hC' ro pl hrp fr H _ hpl.seq.1 h1 ρ a w hF hH) ?_
        intro e a' w' hp
        obtain ⟨ρ', p1, p2, p3, p4, p5⟩ := hp
        cases e with
        | normal =>
          refine wpIn_mono (ihy tbl n hC' ro pl hrp fr1 H1 r hpl.seq.2 hrun ρ' a' w' p1 p2) ?_
          intro e a'' w'' hq
          exact hq.more p3 p4
        | _ => exact p5.elim
      · rename_i hne
        refine wpIn_mono (ihx tbl n hC' ro pl hrp fr H _ hpl.seq.1 hrun ρ a w hF hH) ?_
        intro e a' w' hp
        cases e with
        | normal =>
          obtain ⟨ex, fr1, H1⟩ := r
          obtain ⟨ρ', p1, p2, p3, p4, p5⟩ := hp
          cases ex with
          | normal => exact absurd hrun (hne fr1 H1)
          | _ => exact p5.elim
        | _ => exact hp

/-! Calls. -/
theorem enter_get : ∀ {vs : AV} {i : Nat} {t fr : Tr AV} {xs : List Value}, enterFr vs i t = some fr → RX ρ vs xs → ∀ q v, fr.get (key (q + 1)) = some v → (i ≤ q ∧ ∃ x, xs[q - i]? = some x ∧ RX ρ v [x]) ∨ t.get (key (q + 1)) = some v := by
  intro vs
  induction vs with
  | nil => intro i t fr xs h _ q v hq; simp only [enterFr] at h; cases h; exact .inr hq
  | cons a r _ ih =>
    intro i t fr xs h hx q v hq
    obtain ⟨x, ys, rfl, ha, hr⟩ := hx
    simp only [enterFr] at h
    rcases ih h hr q v hq with ⟨h1, y, h2, h3⟩ | h1
    · refine .inl ⟨by omega, y, ?_, h3⟩
      rw [show q - i = (q - (i + 1)) + 1 by omega]
      simpa using h2
    · rw [Tr.get_set] at h1
      split at h1
      · rename_i e
        have e := key_inj e
        cases h1
        refine .inl ⟨by omega, x, ?_, ha⟩
        rw [show q - i = 0 by omega]
        rfl
      · exact .inr h1
  | _ => intro i t fr xs h; simp only [enterFr] at h; cases h

theorem enter_h : ∀ {vs : AV} {i : Nat} {t fr : Tr AV}, enterFr vs i t = some fr → fr.get .h = t.get .h := by
  intro vs
  induction vs with
  | nil => intro i t fr h; simp only [enterFr] at h; cases h; rfl
  | cons a r _ ih =>
    intro i t fr h
    simp only [enterFr] at h
    rw [ih h, Tr.get_set_ne]
    intro e
    have := key_inj (show key 0 = key (i + 1) from e)
    omega
  | _ => intro i t fr h; simp only [enterFr] at h; cases h

theorem enter_ok {vs : AV} {args : Array Value} (h : enterFr vs 0 .leaf = some fr) (hx : RX ρ vs args.toList) : FRel C ρ fr (args ++ Array.replicate (C.n - args.size) undef) := by
  refine ⟨by simp; omega, ?_⟩
  intro t v _ hv
  rcases enter_get h hx t v hv with ⟨_, x, h2, h3⟩ | h1
  · refine ⟨x, ?_, h3⟩
    simp only [Nat.sub_zero, Array.getElem?_toList] at h2
    have hlt : t < args.size := by
      rcases Nat.lt_or_ge t args.size with h | h
      · exact h
      · rw [Array.getElem?_eq_none h] at h2; cases h2
    rw [Array.getElem?_append_left hlt]
    exact h2
  · rw [Tr.get_leaf] at h1; cases h1

theorem res_ok (hF : FRel C ρ fr a.tmps) (hH : HRel P C.ng ρ H w) {r : ResultVar} {cr : CRes} (h : resP P C r = some cr) {v : AV} (hv : cr.ev fr H = some v) :
    ∃ x, ((match r with
      | .tmp t => pure (a.tmps.getD t undef)
      | .cell p t => do loadVar t (← asAddr (a.tmps.getD p undef)) : Sem Value)).run P w = .ok x w ∧ RX ρ v [x] := by
  have at_ : ∀ {t : Tmp} {x : Value}, a.tmps[t]? = some x → a.tmps.getD t undef = x := fun h => by simp [h]
  cases r with
  | tmp t =>
    simp only [resP] at h
    split at h
    · rename_i hf
      cases h
      obtain ⟨x, hx, hr⟩ := hF.far t v hf hv
      exact ⟨x, by simp only [at_ hx]; rfl, hr⟩
    · cases h
  | cell p t =>
    simp only [resP] at h
    split at h
    · cases h
    · rename_i hf
      simp only [Bool.not_eq_true', Bool.not_eq_false] at hf
      split at h
      · rename_i n hag hsz
        cases h
        obtain ⟨u, hu, g⟩ := bindO hv
        split at g
        · rename_i q off
          obtain ⟨cs, hcs, g2⟩ := bindO g
          cases g2
          obtain ⟨x, hx, hr⟩ := hF.far p _ hf hu
          obtain ⟨L, hL, rfl⟩ := hr.ptr_eq
          obtain ⟨xs, r1, r2, r3, _⟩ := hH.cells (P := P) hcs hL
          refine ⟨.agg xs.toArray, ?_, ⟨_, rfl, r3, by simpa using r2⟩⟩
          simp only [at_ hx]
          show (do let ad ← asAddr (.pointer (some ⟨L.b, L.base + off, none⟩)); loadVar t ad : Sem Value).run P w = _
          rw [runB (show (asAddr (.pointer (some ⟨L.b, L.base + off, none⟩))).run P w = .ok _ w from rfl)]
          unfold loadVar
          rw [runB (run_isAgg hag w)]
          simp only [if_true]
          rw [runB (run_sizeOf hsz w), runB (r1 w rfl)]
          rfl
        · cases g
      · rename_i n hag hsz
        cases h
        obtain ⟨u, hu, g⟩ := bindO hv
        split at g
        · rename_i q off
          obtain ⟨x, hx, hr⟩ := hF.far p _ hf hu
          obtain ⟨L, hL, rfl⟩ := hr.ptr_eq
          obtain ⟨z, r1, r2⟩ := hH.cell g hL
          refine ⟨z, ?_, r2⟩
          simp only [at_ hx]
          show (do let ad ← asAddr (.pointer (some ⟨L.b, L.base + off, none⟩)); loadVar t ad : Sem Value).run P w = _
          rw [runB (show (asAddr (.pointer (some ⟨L.b, L.base + off, none⟩))).run P w = .ok _ w from rfl)]
          unfold loadVar
          rw [runB (run_isAgg hag w)]
          simp only [Bool.false_eq_true, if_false]
          exact run_load r1
        · cases g
      · cases h

/-- What a result is read as. -/
def resSem (tm : Array Value) (r : ResultVar) : Sem Value :=
  match r with
  | .tmp t => pure (tm.getD t undef)
  | .cell p t => do loadVar t (← asAddr (tm.getD p undef))

theorem resL_ok (hF : FRel C ρ fr a.tmps) (hH : HRel P C.ng ρ H w) : ∀ {l : List ResultVar} {rs : List CRes} {vs : AV}, mapO (resP P C) l = some rs → resultsL fr H rs = some vs →
    ∃ xs, (l.mapM (resSem a.tmps)).run P w = .ok xs w ∧ RX ρ vs xs ∧ vs.isList = true := by
  intro l
  induction l with
  | nil =>
    intro rs vs h hv
    simp only [mapO] at h
    cases h
    simp only [resultsL] at hv
    cases hv
    exact ⟨[], rfl, rfl, rfl⟩
  | cons r l ih =>
    intro rs vs h hv
    simp only [mapO] at h
    split at h
    · cases h
    · rename_i cr hcr
      split at h
      · cases h
      · rename_i crs hcrs
        cases h
        simp only [resultsL] at hv
        obtain ⟨u, hu, g1⟩ := bindO hv
        obtain ⟨us, hus, g2⟩ := bindO g1
        cases g2
        obtain ⟨x, hx, hr⟩ := res_ok hF hH hcr hu
        obtain ⟨xs, hxs, hrs, hl⟩ := ih hcrs hus
        refine ⟨x :: xs, ?_, ⟨x, xs, rfl, hr, hrs⟩, hl⟩
        rw [List.mapM_cons]
        have hx' : (resSem a.tmps r).run P w = .ok x w := by
          cases r <;> exact hx
        rw [runB hx', runB hxs]
        rfl

theorem results_ok (hF : FRel C ρ fr a.tmps) (hH : HRel P C.ng ρ H w) {fn : Func} {rs : List CRes} {v : AV} (h : mapO (resP P C) fn.results.toList = some rs) (hv : resultsA fr H rs = some v) :
    ∃ x, (results fn a.tmps).run P w = .ok x w ∧ RX ρ v [x] := by
  unfold resultsA at hv
  obtain ⟨vs, hvs, g⟩ := bindO hv
  obtain ⟨xs, h1, h2, h3⟩ := resL_ok hF hH h hvs
  have hrun : (results fn a.tmps).run P w = .ok (if h : xs.toArray.size = 1 then xs.toArray[0] else .tuple xs.toArray) w := by
    show (fn.results.mapM (resSem a.tmps) >>= fun vs => (pure (if h : vs.size = 1 then vs[0] else .tuple vs) : Sem Value)).run P w = _
    rw [Array.mapM_eq_mapM_toList]
    have : (List.toArray <$> fn.results.toList.mapM (resSem a.tmps)).run P w = .ok xs.toArray w := by
      rw [map_eq_pure_bind]
      rw [runB h1]
      rfl
    rw [runB this]
    rfl
  refine ⟨_, hrun, ?_⟩
  have hlen := h2.len h3
  split at g
  · rename_i u
    cases g
    obtain ⟨x, ys, rfl, hx, hy⟩ := h2
    have : ys = [] := hy
    subst this
    simpa using hx
  · rename_i hne
    cases g
    have hl1 : xs.toArray.size ≠ 1 := by
      intro e
      have e : xs.length = 1 := by simpa using e
      cases vs with
      | nil => rw [show xs = [] from h2] at e; cases e
      | cons u r =>
        cases r with
        | nil => exact hne u rfl
        | cons u' r' => simp [AV.len] at hlen; omega
        | _ => simp [AV.isList] at h3
      | _ => simp [AV.isList] at h3
    rw [dif_neg hl1]
    exact ⟨_, rfl, h3, by simpa using h2⟩

/-- An object that is nobody's may change. -/
theorem HRel.off {ng : Nat} (h : HRel P ng ρ H w) {r : Nat} {o : Obj} (hr : ∀ p L, H.live p = true → ρ p = some L → L.b ≠ r) : HRel P ng ρ H (w.putObj r o) where
  objs := fun p o' L h1 h2 h3 => (h.objs p o' L h1 h2 h3).same (World.putObj_heap_other (hr p L (live_of_get h1 h2) h3))
  inj := h.inj
  bound := fun p L hp => by rw [World.putObj_size]; exact h.bound p L hp
  fresh := h.fresh
  globals := h.globals
  wf := h.wf
  loops := h.loops
theorem Step.off {ρ0 : Ren} {H0 : Heap} {w0 : World} (h : Step ρ0 H0 w0 ρ H w) {r : Nat} {o : Obj} (hr : w0.heap.size ≤ r) : Step ρ0 H0 w0 ρ H (w.putObj r o) where
  ext := h.ext
  os := h.os
  tape := h.tape
  output := h.output
  size := by rw [World.putObj_size]; exact h.size
  frame := fun b hb hn => by rw [World.putObj_heap_other (by omega)]; exact h.frame b hb hn
  own := h.own
  next := h.next
  new := h.new
  old := h.old
  keep := fun p hp t hg => ⟨(h.keep p hp t hg).1, fun L hL hb => by rw [World.putObj_heap_other (by omega)]; exact (h.keep p hp t hg).2 L hL hb⟩

theorem HRel.push {ng : Nat} (h : HRel P ng ρ H w) (o : Obj) : HRel P ng ρ H (w.alloc o) where
  objs := fun p o' L h1 h2 h3 => (h.objs p o' L h1 h2 h3).same (by show (w.heap.push o)[L.b]? = _; rw [Array.getElem?_push, if_neg (by have := h.bound p L h3; omega)])
  inj := h.inj
  bound := fun p L hp => by rw [World.size_alloc]; have := h.bound p L hp; omega
  fresh := h.fresh
  globals := h.globals
  wf := h.wf
  loops := h.loops
theorem Step.push {ng : Nat} (h : HRel P ng ρ H w) (o : Obj) : Step ρ H w ρ H (w.alloc o) where
  ext := Ext.refl ρ
  os := rfl
  tape := rfl
  output := rfl
  size := by rw [World.size_alloc]; omega
  frame := fun b hb _ => by show (w.heap.push o)[b]? = _; rw [Array.getElem?_push, if_neg (by omega)]
  own := fun p L h1 h2 => .inr ⟨p, L, h1, h2, rfl⟩
  next := Nat.le_refl _
  new := fun p L h1 h2 => by rw [h1] at h2; cases h2
  old := fun _ _ h => h
  keep := fun p hp t hg => ⟨hg, fun L hL hb => by show (w.heap.push o)[L.b]? = _; rw [Array.getElem?_push, if_neg (by omega)]⟩

/-! Code that asks what was thrown. -/
theorem wpSIn_mono {F : Fence} {n : Nat} {c : Code} {Q Q' : Exit → Act → List Frame → World → Prop} {cs : List Frame} (h : c.wpSIn F n P Q a cs w) (hq : ∀ e a' cs' w', Q e a' cs' w' → Q' e a' cs' w') : c.wpSIn F n P Q' a cs w :=
  fun b k h1 h2 h3 h4 => let ⟨e, a', cs', w', l, q, r⟩ := h b k h1 h2 h3 h4; ⟨e, a', cs', w', l, hq _ _ _ _ q, r⟩
/-- What is thrown while a frame leaves: as the semantics says, and as the model. -/
def MRel (ρ : Ren) : AV → FrameMode → Prop
  | .niliface, u => u = .returning ∨ ∃ x, u = .panicking [{ v := x, recovered := true }]
  | .iface t v, u => ∃ x, u = .panicking [{ v := x, recovered := false }] ∧ RX ρ (.iface t v) [x]
  | _, _ => False
theorem MRel.mono {ρ ρ' : Ren} (h : Ext ρ ρ') {m : AV} {u : FrameMode} (hm : MRel ρ m u) : MRel ρ' m u := by
  cases m with
  | niliface => exact hm
  | iface t v => obtain ⟨x, h1, h2⟩ := hm; exact ⟨x, h1, h2.mono h⟩
  | _ => exact hm.elim
theorem MRel.ne_nil {m : AV} {u : FrameMode} (hm : MRel ρ m u) : m ≠ .nil := by rintro rfl; exact hm
def PostS (P : Program) (C : Ctx) (ρ : Ren) (H : Heap) (w : World) (ds : List Deferred) (c₀ : Frame) (cs : List Frame) (r : Ex × Tr AV × Heap) (e : Exit) (a' : Act) (cs' : List Frame) (w' : World) : Prop :=
  ∃ ρ', FRel C ρ' r.2.1 a'.tmps ∧ HRel P C.ng ρ' r.2.2 w' ∧ Step ρ H w ρ' r.2.2 w' ∧ a'.defers = ds ∧ (∃ m' u', r.2.1.get .h = some m' ∧ MRel ρ' m' u' ∧ cs' = { c₀ with mode := u' } :: cs) ∧ ExRel ρ' r.1 e
def CodeSOk (P : Program) (tbl : Nat → Option CFunc) (ng n : Nat) : Prop :=
  ∀ C c cc fr H r, codeS P C c = some cc → C.ng = ng → run tbl n cc fr H = some r → ∀ ρ (a : Act) w, FRel C ρ fr a.tmps → HRel P C.ng ρ H w → ∀ (c₀ : Frame) (cs : List Frame) (u : FrameMode) m, fr.get .h = some m → MRel ρ m u →
    c.wpSIn (fz none) 0 P (PostS P C ρ H w a.defers c₀ cs r) a ({ c₀ with mode := u } :: cs) w

end
end Go.Dx
