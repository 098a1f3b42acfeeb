/-
  Code and calls: what the semantics says is what the model does.
-/
import Derived.Test.YthpnhdopheofcaaDxStep
import Derived.Scope
import Derived.RangeFuncRecord
import Derived.CallsIn
import Derived.OrdersIn
set_option linter.unusedSimpArgs false
set_option linter.unusedVariables false
namespace Go.Dx

section
variable {P : Program} {C : Ctx} {ρ : Ren} {fr : Tr AV} {a : Act} {H H' : Heap} {w : World}

theorem findLabel_comp : ∀ {c : Code} {cc : CCode}, codeP P C c = some cc → ∀ l, (findLabel c l = none ∧ findLabelC cc l = none) ∨ ∃ r rr, findLabel c l = some r ∧ findLabelC cc l = some rr ∧ codeP P C r = some rr := by
  intro c
  induction c with
  | seq x y ihx ihy =>
    intro cc h l
    simp only [codeP] at h
    split at h
    · rename_i cx cy hx hy
      cases h
      simp only [findLabel, findLabelC]
      rcases ihx hx l with ⟨h1, h2⟩ | ⟨r, rr, h1, h2, h3⟩
      · rw [h1, h2]
        exact ihy hy l
      · rw [h1, h2]
        exact .inr ⟨_, _, rfl, rfl, by simp only [codeP, h3, hy]⟩
    · cases h
  | label l' =>
    intro cc h l
    simp only [codeP] at h
    cases h
    simp only [findLabel, findLabelC]
    by_cases e : l' = l
    · subst e; simp [codeP]
    · simp [e]
  | region id ops d =>
    intro cc h l
    simp only [codeP] at h
    unfold regionP at h
    left
    refine ⟨rfl, ?_⟩
    split at h <;> (simp only [Option.map_eq_some_iff] at h; obtain ⟨_, _, rfl⟩ := h; rfl)
  | cond x y z _ _ =>
    intro cc h l
    simp only [codeP] at h
    split at h
    · cases h; exact .inl ⟨rfl, rfl⟩
    · cases h
  | rangeFunc f ps x y _ _ =>
    intro cc h l
    simp only [codeP] at h
    split at h
    · split at h
      · cases h; exact .inl ⟨rfl, rfl⟩
      · cases h
    · cases h
  | block i c _ =>
    intro cc h l
    simp only [codeP, Option.map_eq_some_iff] at h
    obtain ⟨_, _, rfl⟩ := h
    exact .inl ⟨rfl, rfl⟩
  | loop c _ =>
    intro cc h l
    simp only [codeP, Option.map_eq_some_iff] at h
    obtain ⟨_, _, rfl⟩ := h
    exact .inl ⟨rfl, rfl⟩
  | scope c _ =>
    intro cc h l
    simp only [codeP, Option.map_eq_some_iff] at h
    obtain ⟨_, _, rfl⟩ := h
    exact .inl ⟨rfl, rfl⟩
  | _ =>
    intro cc h l
    simp only [codeP] at h
    cases h <;> exact .inl ⟨rfl, rfl⟩

theorem findLabel_plain : ∀ {c : CCode} {l : Nat} {r : CCode}, c.plain = true → findLabelC c l = some r → r.plain = true := by
  intro c
  induction c with
  | seq a b iha ihb =>
    intro l r hp h
    simp only [CCode.plain, Bool.and_eq_true] at hp
    simp only [findLabelC] at h
    split at h
    · rename_i rest h1
      cases h
      simp only [CCode.plain, Bool.and_eq_true]
      exact ⟨iha hp.1 h1, hp.2⟩
    · exact ihb hp.2 h
  | label l' =>
    intro l r hp h
    simp only [findLabelC] at h
    split at h
    · cases h; rfl
    · cases h
  | _ => intro l r hp h; simp only [findLabelC] at h; cases h

/-- Code, at a fuel. -/
def CodeOk (P : Program) (tbl : Nat → Option CFunc) (ng n : Nat) : Prop :=
  ∀ (ro : Option Nat) C c cc fr H r, codeP P C c = some cc → C.ng = ng → (ro.isSome = true → cc.plain = true) → run tbl n cc fr H = some r → ∀ ρ (a : Act) w, FRel C ρ fr a.tmps → HRel P C.ng ρ H w → c.wpIn (fz ro) 0 P (Post P C ρ H w a.defers r) a w

/-- A loop that is under way. -/
def LoopOk (P : Program) (tbl : Nat → Option CFunc) (ng n : Nat) : Prop :=
  ∀ (ro : Option Nat) C c cc fr H r, codeP P C c = some cc → C.ng = ng → (ro.isSome = true → cc.plain = true) → run tbl n (.loop cc) fr H = some r → ∀ ρ (a : Act) w, FRel C ρ fr a.tmps → HRel P C.ng ρ H w →
    ∀ (b : Frame) (k : List Item) (cs : List Frame), b.roundOf = ro → ∃ e a' w', Post P C ρ H w a.defers r e a' w' ∧ ArrivesIn (Machine.fenced P (fz ro)) P (lone (b.atR a (.code c :: .inLoop c :: k)) cs w) b k cs e a' w'

/-- A scope that is under way. -/
def ScopeOk (P : Program) (tbl : Nat → Option CFunc) (ng n : Nat) : Prop :=
  ∀ (ro : Option Nat) C c cc d dd fr H r, codeP P C c = some cc → codeP P C d = some dd → C.ng = ng → (ro.isSome = true → cc.plain = true ∧ dd.plain = true) → run tbl n (.scope dd cc) fr H = some r → ∀ ρ (a : Act) w, FRel C ρ fr a.tmps → HRel P C.ng ρ H w →
    ∀ (b : Frame) (k : List Item) (cs : List Frame), b.roundOf = ro → ∃ e a' w', Post P C ρ H w a.defers r e a' w' ∧ ArrivesIn (Machine.fenced P (fz ro)) P (lone (b.atR a (.code d :: .inScope c :: k)) cs w) b k cs e a' w'

section steps
variable {b : Frame} {k : List Item} {cs : List Frame}
theorem stepR_scope {c : Code} : step P (lone (b.atR a (.code (.scope c) :: k)) cs w) = .next (lone (b.atR a (.code c :: .inScope c :: k)) cs w) :=
  step_lone_go (by simp [stepG, stepG.exec, Frame.atR])
theorem stepR_inScope {c : Code} : step P (lone (b.atR a (.inScope c :: k)) cs w) = .next (lone (b.atR a k) cs w) :=
  step_lone_go (by simp [stepG, stepG.exec, Frame.atR])
theorem oneR {ro : Option Nat} {x : Item} {m' : Machine} (ha : (b.atR a (x :: k)).about P w = none) (h : step P (lone (b.atR a (x :: k)) cs w) = .next m') : StepsIn (Machine.fenced P (fz ro)) P (lone (b.atR a (x :: k)) cs w) m' :=
  .one (fenced_calm (n := 0) (F := fz ro) trivial (room_fz _ _) ha) h
end steps

theorem Post.trans {r : Ex × Tr AV × Heap} {ρ' : Ren} {w' : World} {ds : List Deferred} {e : Exit} {a' : Act} {w'' : World} (hS : Step ρ H w ρ' H' w') (h : Post P C ρ' H' w' ds r e a' w'') : Post P C ρ H w ds r e a' w'' := by
  obtain ⟨ρ'', p1, p2, p3, p4, p5⟩ := h
  exact ⟨ρ'', p1, p2, hS.trans p3, p4.base hS.size, p5⟩

theorem Post.more {r : Ex × Tr AV × Heap} {ρ' : Ren} {w' : World} {ds ds1 : List Deferred} {e : Exit} {a' : Act} {w'' : World} (hS : Step ρ H w ρ' H' w') (hm : Marks w ρ' H' w' ds ds1) (h : Post P C ρ' H' w' ds1 r e a' w'') : Post P C ρ H w ds r e a' w'' := by
  obtain ⟨ρ'', p1, p2, p3, p4, p5⟩ := h
  exact ⟨ρ'', p1, p2, hS.trans p3, hm.trans hS.size p3 p4, p5⟩

/-! Calls. -/
theorem enter_get : ∀ {vs : AV} {i : Nat} {t fr : Tr AV} {xs : List Value}, enterFr vs i t = some fr → RX ρ vs xs → ∀ q v, fr.get (key (q + 1)) = some v → (i ≤ q ∧ ∃ x, xs[q - i]? = some x ∧ RX ρ v [x]) ∨ t.get (key (q + 1)) = some v := by
  intro vs
  induction vs with
  | nil => intro i t fr xs h _ q v hq; simp only [enterFr] at h; cases h; exact .inr hq
  | cons a r _ ih =>
    intro i t fr xs h hx q v hq
    obtain ⟨x, ys, rfl, ha, hr⟩ := hx
    simp only [enterFr] at h
    rcases ih h hr q v hq with ⟨h1, y, h2, h3⟩ | h1
    · refine .inl ⟨by omega, y, ?_, h3⟩
      rw [show q - i = (q - (i + 1)) + 1 by omega]
      simpa using h2
    · rw [Tr.get_set] at h1
      split at h1
      · rename_i e
        have e := key_inj e
        cases h1
        refine .inl ⟨by omega, x, ?_, ha⟩
        rw [show q - i = 0 by omega]
        rfl
      · exact .inr h1
  | _ => intro i t fr xs h; simp only [enterFr] at h; cases h

theorem enter_ok {vs : AV} {args : Array Value} (h : enterFr vs 0 .leaf = some fr) (hx : RX ρ vs args.toList) : FRel C ρ fr (args ++ Array.replicate (C.n - args.size) undef) := by
  refine ⟨by simp; omega, ?_⟩
  intro t v _ hv
  rcases enter_get h hx t v hv with ⟨_, x, h2, h3⟩ | h1
  · refine ⟨x, ?_, h3⟩
    simp only [Nat.sub_zero, Array.getElem?_toList] at h2
    have hlt : t < args.size := by
      rcases Nat.lt_or_ge t args.size with h | h
      · exact h
      · rw [Array.getElem?_eq_none h] at h2; cases h2
    rw [Array.getElem?_append_left hlt]
    exact h2
  · rw [Tr.get_leaf] at h1; cases h1

theorem res_ok (hF : FRel C ρ fr a.tmps) (hH : HRel P C.ng ρ H w) {r : ResultVar} {cr : CRes} (h : resP P C r = some cr) {v : AV} (hv : cr.ev fr H = some v) :
    ∃ x, ((match r with
      | .tmp t => pure (a.tmps.getD t undef)
      | .cell p t => do loadVar t (← asAddr (a.tmps.getD p undef)) : Sem Value)).run P w = .ok x w ∧ RX ρ v [x] := by
  have at_ : ∀ {t : Tmp} {x : Value}, a.tmps[t]? = some x → a.tmps.getD t undef = x := fun h => by simp [h]
  cases r with
  | tmp t =>
    simp only [resP] at h
    split at h
    · rename_i hf
      cases h
      obtain ⟨x, hx, hr⟩ := hF.far t v hf hv
      exact ⟨x, by simp only [at_ hx]; rfl, hr⟩
    · cases h
  | cell p t =>
    simp only [resP] at h
    split at h
    · cases h
    · rename_i hf
      simp only [Bool.not_eq_true', Bool.not_eq_false] at hf
      split at h
      · rename_i n hag hsz
        cases h
        obtain ⟨u, hu, g⟩ := bindO hv
        split at g
        · rename_i q off
          obtain ⟨cs, hcs, g2⟩ := bindO g
          cases g2
          obtain ⟨x, hx, hr⟩ := hF.far p _ hf hu
          obtain ⟨L, hL, rfl⟩ := hr.ptr_eq
          obtain ⟨xs, r1, r2, r3, _⟩ := hH.cells (P := P) hcs hL
          refine ⟨.agg xs.toArray, ?_, ⟨_, rfl, r3, by simpa using r2⟩⟩
          simp only [at_ hx]
          show (do let ad ← asAddr (.pointer (some ⟨L.b, L.base + off, none⟩)); loadVar t ad : Sem Value).run P w = _
          rw [runB (show (asAddr (.pointer (some ⟨L.b, L.base + off, none⟩))).run P w = .ok _ w from rfl)]
          unfold loadVar
          rw [runB (run_isAgg hag w)]
          simp only [if_true]
          rw [runB (run_sizeOf hsz w), runB (r1 w rfl)]
          rfl
        · cases g
      · rename_i n hag hsz
        cases h
        obtain ⟨u, hu, g⟩ := bindO hv
        split at g
        · rename_i q off
          obtain ⟨x, hx, hr⟩ := hF.far p _ hf hu
          obtain ⟨L, hL, rfl⟩ := hr.ptr_eq
          obtain ⟨z, r1, r2⟩ := hH.cell g hL
          refine ⟨z, ?_, r2⟩
          simp only [at_ hx]
          show (do let ad ← asAddr (.pointer (some ⟨L.b, L.base + off, none⟩)); loadVar t ad : Sem Value).run P w = _
          rw [runB (show (asAddr (.pointer (some ⟨L.b, L.base + off, none⟩))).run P w = .ok _ w from rfl)]
          unfold loadVar
          rw [runB (run_isAgg hag w)]
          simp only [Bool.false_eq_true, if_false]
          exact run_load r1
        · cases g
      · cases h

/-- What a result is read as. -/
def resSem (tm : Array Value) (r : ResultVar) : Sem Value :=
  match r with
  | .tmp t => pure (tm.getD t undef)
  | .cell p t => do loadVar t (← asAddr (tm.getD p undef))

theorem resL_ok (hF : FRel C ρ fr a.tmps) (hH : HRel P C.ng ρ H w) : ∀ {l : List ResultVar} {rs : List CRes} {vs : AV}, mapO (resP P C) l = some rs → resultsL fr H rs = some vs →
    ∃ xs, (l.mapM (resSem a.tmps)).run P w = .ok xs w ∧ RX ρ vs xs ∧ vs.isList = true := by
  intro l
  induction l with
  | nil =>
    intro rs vs h hv
    simp only [mapO] at h
    cases h
    simp only [resultsL] at hv
    cases hv
    exact ⟨[], rfl, rfl, rfl⟩
  | cons r l ih =>
    intro rs vs h hv
    simp only [mapO] at h
    split at h
    · cases h
    · rename_i cr hcr
      split at h
      · cases h
      · rename_i crs hcrs
        cases h
        simp only [resultsL] at hv
        obtain ⟨u, hu, g1⟩ := bindO hv
        obtain ⟨us, hus, g2⟩ := bindO g1
        cases g2
        obtain ⟨x, hx, hr⟩ := res_ok hF hH hcr hu
        obtain ⟨xs, hxs, hrs, hl⟩ := ih hcrs hus
        refine ⟨x :: xs, ?_, ⟨x, xs, rfl, hr, hrs⟩, hl⟩
        rw [List.mapM_cons]
        have hx' : (resSem a.tmps r).run P w = .ok x w := by
          cases r <;> exact hx
        rw [runB hx', runB hxs]
        rfl

theorem results_ok (hF : FRel C ρ fr a.tmps) (hH : HRel P C.ng ρ H w) {fn : Func} {rs : List CRes} {v : AV} (h : mapO (resP P C) fn.results.toList = some rs) (hv : resultsA fr H rs = some v) :
    ∃ x, (results fn a.tmps).run P w = .ok x w ∧ RX ρ v [x] := by
  unfold resultsA at hv
  obtain ⟨vs, hvs, g⟩ := bindO hv
  obtain ⟨xs, h1, h2, h3⟩ := resL_ok hF hH h hvs
  have hrun : (results fn a.tmps).run P w = .ok (if h : xs.toArray.size = 1 then xs.toArray[0] else .tuple xs.toArray) w := by
    show (fn.results.mapM (resSem a.tmps) >>= fun vs => (pure (if h : vs.size = 1 then vs[0] else .tuple vs) : Sem Value)).run P w = _
    rw [Array.mapM_eq_mapM_toList]
    have : (List.toArray <$> fn.results.toList.mapM (resSem a.tmps)).run P w = .ok xs.toArray w := by
      rw [map_eq_pure_bind]
      rw [runB h1]
      rfl
    rw [runB this]
    rfl
  refine ⟨_, hrun, ?_⟩
  have hlen := h2.len h3
  split at g
  · rename_i u
    cases g
    obtain ⟨x, ys, rfl, hx, hy⟩ := h2
    have : ys = [] := hy
    subst this
    simpa using hx
  · rename_i hne
    cases g
    have hl1 : xs.toArray.size ≠ 1 := by
      intro e
      have e : xs.length = 1 := by simpa using e
      cases vs with
      | nil => rw [show xs = [] from h2] at e; cases e
      | cons u r =>
        cases r with
        | nil => exact hne u rfl
        | cons u' r' => simp [AV.len] at hlen; omega
        | _ => simp [AV.isList] at h3
      | _ => simp [AV.isList] at h3
    rw [dif_neg hl1]
    exact ⟨_, rfl, h3, by simpa using h2⟩

/-- An object that is nobody's may change. -/
theorem HRel.off {ng : Nat} (h : HRel P ng ρ H w) {r : Nat} {o : Obj} (hr : ∀ p L, H.live p = true → ρ p = some L → L.b ≠ r) : HRel P ng ρ H (w.putObj r o) where
  objs := fun p o' L h1 h2 h3 => (h.objs p o' L h1 h2 h3).same (World.putObj_heap_other (hr p L (live_of_get h1 h2) h3))
  inj := h.inj
  bound := fun p L hp => by rw [World.putObj_size]; exact h.bound p L hp
  fresh := h.fresh
  globals := h.globals
  wf := h.wf
  loops := h.loops
theorem Step.off {ρ0 : Ren} {H0 : Heap} {w0 : World} (h : Step ρ0 H0 w0 ρ H w) {r : Nat} {o : Obj} (hr : w0.heap.size ≤ r) : Step ρ0 H0 w0 ρ H (w.putObj r o) where
  ext := h.ext
  os := h.os
  tape := h.tape
  output := h.output
  size := by rw [World.putObj_size]; exact h.size
  frame := fun b hb hn => by rw [World.putObj_heap_other (by omega)]; exact h.frame b hb hn
  own := h.own
  next := h.next
  new := h.new
  old := h.old
  keep := fun p hp t hg => ⟨(h.keep p hp t hg).1, fun L hL hb => by rw [World.putObj_heap_other (by omega)]; exact (h.keep p hp t hg).2 L hL hb⟩

theorem HRel.push {ng : Nat} (h : HRel P ng ρ H w) (o : Obj) : HRel P ng ρ H (w.alloc o) where
  objs := fun p o' L h1 h2 h3 => (h.objs p o' L h1 h2 h3).same (by show (w.heap.push o)[L.b]? = _; rw [Array.getElem?_push, if_neg (by have := h.bound p L h3; omega)])
  inj := h.inj
  bound := fun p L hp => by rw [World.size_alloc]; have := h.bound p L hp; omega
  fresh := h.fresh
  globals := h.globals
  wf := h.wf
  loops := h.loops
theorem Step.push {ng : Nat} (h : HRel P ng ρ H w) (o : Obj) : Step ρ H w ρ H (w.alloc o) where
  ext := Ext.refl ρ
  os := rfl
  tape := rfl
  output := rfl
  size := by rw [World.size_alloc]; omega
  frame := fun b hb _ => by show (w.heap.push o)[b]? = _; rw [Array.getElem?_push, if_neg (by omega)]
  own := fun p L h1 h2 => .inr ⟨p, L, h1, h2, rfl⟩
  next := Nat.le_refl _
  new := fun p L h1 h2 => by rw [h1] at h2; cases h2
  old := fun _ _ h => h
  keep := fun p hp t hg => ⟨hg, fun L hL hb => by show (w.heap.push o)[L.b]? = _; rw [Array.getElem?_push, if_neg (by omega)]⟩

theorem leave_marks {ng : Nat} {ρ0 : Ren} {H0 : Heap} {w0 : World} {fn : Func} {tmps : Array Value} {R : Ending → World → Prop} {u : FrameMode} (hH : HRel P ng ρ H w) (hS : Step ρ0 H0 w0 ρ H w) :
    ∀ (rs : List Nat), rs.Nodup → (∀ r ∈ rs, MarkAt w0 ρ H w r) → u ≠ .run → (∀ w1, HRel P ng ρ H w1 → Step ρ0 H0 w0 ρ H w1 → LeavesInM (fz none) 0 P fn tmps R [] u w1) → LeavesInM (fz none) 0 P fn tmps R (rs.map markD) u w := by
  intro rs
  induction rs generalizing w with
  | nil => intro _ _ _ fin; exact fin w hH hS
  | cons r rs ih =>
    intro hn hm hu fin
    rw [List.nodup_cons] at hn
    have h1 := hm r (List.mem_cons_self ..)
    refine ⟨hu, .inl ⟨r, w.putObj r (.deferred none), rfl, run_takeDeferred h1.2.1, ?_⟩⟩
    refine ih (hH.off h1.2.2) (hS.off h1.1) hn.2 ?_ hu fin
    intro q hq
    have h2 := hm q (List.mem_cons_of_mem _ hq)
    refine ⟨h2.1, ?_, h2.2.2⟩
    rw [World.putObj_heap_other (fun e => hn.1 (by rw [← e]; exact hq))]
    exact h2.2.1

/-- Calls at a fuel, by code at that fuel. -/
theorem call_of_code {tbl : Nat → Option CFunc} {ng n : Nat} (hT : TblOk P ng tbl) (hc : CodeOk P tbl ng n) : CallOk P ng (doCall tbl (run tbl n)) := by
  intro f as H r H' hev
  unfold doCall at hev
  split at hev
  · cases hev
  rename_i cf h1
  have hfn := hT.fn f cf h1
  unfold FnOk at hfn
  split at hev
  · rename_i v hk
    rw [hk] at hfn
    simp only at hfn
    obtain ⟨hex, x, hx0, hcall⟩ := hfn
    refine ⟨hex, ?_⟩
    split at hev
    · cases hev
      intro ρ w args hH hx hl
      have hargs : args = #[] := by have : args.toList = [] := hx; cases args; simp_all
      subst hargs
      refine Calls.mono (hcall w) ?_
      intro e w' ⟨he, e1, e2, e3, e4, e5⟩
      subst he
      refine ⟨ρ, ⟨fun p o L h1 h2 h3 => (hH.objs p o L h1 h2 h3).same (e5 _ (hH.bound p L h3)), hH.inj, fun p L hp => Nat.lt_of_lt_of_le (hH.bound p L hp) e4, hH.fresh, hH.globals, hH.wf, hH.loops⟩,
        ⟨Ext.refl ρ, e1, e2, e3, e4, fun b hb _ => e5 b hb, fun p L h1 h2 => .inr ⟨p, L, h1, h2, rfl⟩, Nat.le_refl _, fun p L h1 h2 => (by rw [h1] at h2; cases h2), fun _ _ h => h, fun _ _ _ h => ⟨h, fun L _ hb => e5 _ hb⟩⟩, hx0 ρ⟩
    · cases hev
  · rename_i g hk
    rw [hk] at hfn
    simp only at hfn
    obtain ⟨hex, hcall⟩ := hfn
    refine ⟨hex, ?_⟩
    split at hev
    · rename_i v hg
      cases hev
      intro ρ w args hH hx hl
      refine Calls.mono (hcall as v H hg ρ w args hH hx hl) ?_
      intro e w' ⟨x, he, hx0, e1, e2, e3, e4, e5⟩
      subst he
      refine ⟨ρ, ⟨fun p o L h1 h2 h3 => (hH.objs p o L h1 h2 h3).same (e5 _ (hH.bound p L h3)), hH.inj, fun p L hp => Nat.lt_of_lt_of_le (hH.bound p L hp) e4, hH.fresh, hH.globals, hH.wf, hH.loops⟩,
        ⟨Ext.refl ρ, e1, e2, e3, e4, fun b hb _ => e5 b hb, fun p L h1 h2 => .inr ⟨p, L, h1, h2, rfl⟩, Nat.le_refl _, fun p L h1 h2 => (by rw [h1] at h2; cases h2), fun _ _ h => h, fun _ _ _ h => ⟨h, fun L _ hb => e5 _ hb⟩⟩, hx0⟩
    · cases hev
  rename_i hk
  rw [hk] at hfn
  simp only at hfn
  split at hev
  · cases hev
  rename_i fr h2
  have g2 := hev
  obtain ⟨fn, C, k1, k2, k3, k4, k5, k6⟩ := hfn
  refine ⟨⟨fn, k1, k2, k3⟩, ?_⟩
  intro ρ w args hH hx hl
  unfold funcP at k6
  split at k6
  · cases k6
  · rename_i c hb
    split at k6
    · rename_i cc rs hcc hrs
      cases k6
      refine callsIn_fz.1 (callsIn_of_wp_marks (n := 0) (F := fz none) k1 hb trivial ?_)
      simp only at g2
      have hF : FRel C ρ fr (args ++ Array.replicate (fn.ntmps - args.size) undef) := by rw [← k5]; exact enter_ok h2 hx
      have main : ∀ q, run tbl n cc fr H = some q → c.wpIn (fz none) 0 P (Post P C ρ H w [] q) { tmps := args ++ Array.replicate (fn.ntmps - args.size) undef, defers := [] } w :=
        fun q hq => hc none C c cc fr H q hcc k4 (fun h => by cases h) hq ρ { tmps := args ++ Array.replicate (fn.ntmps - args.size) undef, defers := [] } w hF (by rw [k4]; exact hH)
      have fin : ∀ (ex : Ex) fr1 H1, (ex = .normal ∨ ex = .ret) → run tbl n cc fr H = some (ex, fr1, H1) → (resultsA fr1 H1 rs).map (fun v => (CR.ret v, H1)) = some (r, H') →
          c.wpIn (fz none) 0 P (bodyPostM (fz none) 0 P fn fun e w' => ∃ ρ', HRel P ng ρ' H' w' ∧ Step ρ H w ρ' H' w' ∧ EndRel ρ' r e) { tmps := args ++ Array.replicate (fn.ntmps - args.size) undef, defers := [] } w := by
        intro ex fr1 H1 hex hq hres
        obtain ⟨v, hv, e⟩ := Option.map_eq_some_iff.1 hres
        cases e
        refine wpIn_mono (main _ hq) ?_
        intro e a' w' ⟨ρ', p1, p2, p3, p4, p5⟩
        have done : LeavesInM (fz none) 0 P fn a'.tmps (fun e w' => ∃ ρ', HRel P ng ρ' H' w' ∧ Step ρ H w ρ' H' w' ∧ EndRel ρ' (.ret v) e) a'.defers .returning w' := by
          obtain ⟨rs, e1, e2, e3⟩ := p4
          rw [e1, List.append_nil]
          refine leave_marks (k4 ▸ p2) p3 rs e2 e3 (by simp) ?_
          intro w1 hH1 hS1
          obtain ⟨x, hx1, hx2⟩ := results_ok (P := P) p1 (by rw [k4]; exact hH1) hrs hv
          exact ⟨x, hx1, ρ', hH1, hS1, hx2⟩
        rcases hex with rfl | rfl
        · cases e with
          | normal => exact done
          | _ => exact p5.elim
        · cases e with
          | ret => exact done
          | _ => exact p5.elim
      cases hq : run tbl n cc fr H with
      | none => rw [hq] at g2; cases g2
      | some q =>
        obtain ⟨ex, fr1, H1⟩ := q
        rw [hq] at g2
        cases ex with
        | normal => exact fin _ fr1 H1 (.inl rfl) hq g2
        | ret => exact fin _ fr1 H1 (.inr rfl) hq g2
        | pan v =>
          cases g2
          refine wpIn_mono (main _ hq) ?_
          intro e a' w' ⟨ρ', p1, p2, p3, p4, p5⟩
          cases e with
          | panic ch =>
            obtain ⟨x, rfl, hx⟩ := p5
            show LeavesInM (fz none) 0 P fn a'.tmps _ a'.defers (.panicking _) w'
            obtain ⟨rs, e1, e2, e3⟩ := p4
            rw [e1, List.append_nil]
            refine leave_marks (k4 ▸ p2) p3 rs e2 e3 (by simp) ?_
            intro w1 hH1 hS1
            exact ⟨ρ', hH1, hS1, x, rfl, hx⟩
          | _ => exact p5.elim
        | exit i => cases g2
        | goto l => cases g2
    · cases k6

/-! Rounds. -/
theorem canonF_get {fr : Tr AV} : ∀ {n : Nat} {q : Pos} {v : AV}, (canonF fr n).get q = some v → fr.get q = some v := by
  intro n
  induction n with
  | zero => intro q v h; unfold canonF at h; rw [Tr.get_leaf] at h; cases h
  | succ n ih =>
    intro q v h
    unfold canonF at h
    split at h
    · rename_i u hu
      rw [Tr.get_set] at h
      split at h
      · rename_i e; cases h; rw [e]; exact hu
      · exact ih h
    · exact ih h
theorem setParams_ok : ∀ {ps : List Tmp} {as : AV} {fr fr1 : Tr AV} {tm : Array Value} {xs : List Value}, setParams ps as fr = some fr1 → RX ρ as xs → (∀ t ∈ ps, t < C.n) → FRel C ρ fr tm →
    xs.length = ps.length ∧ FRel C ρ fr1 ((ps.zip xs).foldl (fun tm x => tm.setIfInBounds x.1 x.2) tm) := by
  intro ps
  induction ps with
  | nil =>
    intro as fr fr1 tm xs h hx _ hF
    cases as <;> simp only [setParams, reduceCtorEq] at h
    cases h
    cases hx
    exact ⟨rfl, hF⟩
  | cons t ts ih =>
    intro as fr fr1 tm xs h hx hlt hF
    cases as <;> simp only [setParams, reduceCtorEq] at h
    rename_i v r
    obtain ⟨x, ys, rfl, h1, h2⟩ := hx
    have ht := hlt t (List.mem_cons_self ..)
    have hF' : FRel C ρ (fr.set (key (t + 1)) v) (tm.setIfInBounds t x) := by
      refine ⟨by rw [Array.size_setIfInBounds]; exact hF.size, fun q u hq hu => ?_⟩
      rw [Tr.get_set] at hu
      by_cases e : q = t
      · subst e
        rw [if_pos rfl] at hu
        cases hu
        have := hF.size
        exact ⟨x, by rw [Array.getElem?_setIfInBounds_self_of_lt (Nat.lt_of_lt_of_le ht hF.size)], h1⟩
      · rw [if_neg (fun e' => e (Nat.succ.inj (key_inj e')))] at hu
        obtain ⟨y, k1, k2⟩ := hF.far q u hq hu
        exact ⟨y, by rw [Array.getElem?_setIfInBounds_ne (fun e' => e e'.symm)]; exact k1, k2⟩
    obtain ⟨g1, g2⟩ := ih h h2 (fun q hq => hlt q (List.mem_cons_of_mem _ hq)) hF'
    exact ⟨by simp [g1], g2⟩

theorem yield_of_code {tbl : Nat → Option CFunc} {ng n : Nat} (hC : CodeOk P tbl ng n) : YldOk P ng (doYield (run tbl n)) := by
  intro p as H r H' hev ρ w args L hH hL hx hl
  unfold doYield at hev
  split at hev
  · rename_i pe fr k h0
    split at hev
    · cases hev
    · rename_i fr1 h1
      split at hev
      · rename_i fr2 H2 h2
        split at hev
        · rename_i pe3 fr3 k3 h3
          split at hev
          · rename_i e frx H3 h4
            obtain ⟨r0, w0, s0, q0, p0, a0, b0, n0, f0⟩ := hH.objs p _ L h0 (by simp) hL
            obtain ⟨c1, c2, c3, c4, c5⟩ := hH.loops p _ h0
            have hF0 : FRel ⟨k.far, k.n, ng⟩ ρ (canonF fr k.n) r0.tmps := ⟨n0, fun t v ht hv => f0 t v ht (canonF_get hv)⟩
            obtain ⟨g1, g2⟩ := setParams_ok h1 hx c5 hF0
            have hsz : args.size = r0.params.size := by
              have : args.toList.length = k.ps.length := g1
              rw [← p0] at this
              simpa using this
            refine ⟨r0, w0, hsz, ?_⟩
            have htm : (r0.params.zip args).foldl (fun tmps x => tmps.setIfInBounds x.1 x.2) r0.tmps = (k.ps.zip args.toList).foldl (fun tm x => tm.setIfInBounds x.1 x.2) r0.tmps := by
              rw [← p0, ← Array.foldl_toList, Array.toList_zip]
            refine roundIn_of_wpIn (F := fz none) trivial ?_
            show Code.wpIn (fz (some L.b)) 0 P r0.assign _ _ w
            rw [a0]
            refine wpIn_mono (hC (some L.b) ⟨k.far, k.n, ng⟩ k.srcA k.assign fr1 H _ c1 rfl (fun _ => c3) h2 ρ { tmps := _, defers := [] } w ?_ hH) ?_
            · show FRel _ ρ fr1 ((r0.params.zip args).foldl (fun tmps x => tmps.setIfInBounds x.1 x.2) r0.tmps)
              rw [htm]
              exact g2
            · intro e1 a1 w1 ⟨ρ1, p1, p2, p3, p4, p5⟩
              cases e1 with
              | normal =>
                have hL1 := p3.ext p L hL
                obtain ⟨r1, v1, s1, q1, o1, a1', b1, n1, f1⟩ := p2.objs p _ L h3 (by simp) hL1
                refine ⟨_, run_beginRound v1 s1, ?_⟩
                have lo1 : (AO.loop 1 pe3 fr3 k3).loopOk P ng := (p2.loops p (.loop 0 pe3 fr3 k3) h3 :)
                have hH2 : HRel P ng ρ1 (H2.put p (.loop 1 pe3 fr3 k3)) (w1.putObj L.b (.loop { r1 with state := .busy })) :=
                  HRel.turn p2 h3 (by simp) hL1 World.putObj_size (fun b hb => World.putObj_heap_other hb) ⟨_, World.putObj_heap_same (by have := p2.bound p L hL1; exact this), rfl, q1, o1, a1', b1, n1, f1⟩ (by simp) lo1
                have hS2 : Step ρ1 H2 w1 ρ1 (H2.put p (.loop 1 pe3 fr3 k3)) (w1.putObj L.b (.loop { r1 with state := .busy })) :=
                  Step.turn p2 h3 (by simp) (by simp) hL1 World.putObj_size (fun b hb => World.putObj_heap_other hb) rfl rfl rfl
                show Code.wpIn (fz (some L.b)) 0 P r0.body _ _ _
                rw [b0]
                refine wpIn_mono (hC (some L.b) ⟨k.far, k.n, ng⟩ k.srcB k.body fr2 _ _ c2 rfl (fun _ => c4) h4 ρ1 a1 _ p1 hH2) ?_
                intro e2 a2 w3 ⟨ρ2, t1, t2, t3, t4, t5⟩
                have hL2 := t3.ext p L hL1
                have fin : ∀ (jump : Option Code) (st : Nat) (pn : AV) s4 q4 fr4 k4, stOf st = (if jump.isNone then .ready else .done) → jumpOf pn = jump → H3.get p = some (.loop s4 q4 fr4 k4) → r = .ret (.bool jump.isNone) → H' = H3.put p (.loop st pn fr4 k4) →
                    ∃ v w', (Instr.endRound L.b jump).run P w3 = .ok v w' ∧ ∃ ρ', HRel P ng ρ' H' w' ∧ Step ρ H w ρ' H' w' ∧ EndRel ρ' r (.returned v) := by
                  intro jump st pn s4 q4 fr4 k4 e1 e2 e3 e4 e5
                  obtain ⟨r3, v3, s3, q3, o3, a3, b3, n3, f3⟩ := t2.objs p _ L e3 (by simp) hL2
                  have lo3 : (AO.loop st pn fr4 k4).loopOk P ng := (t2.loops p (.loop s4 q4 fr4 k4) e3 :)
                  refine ⟨_, _, run_endRound jump v3, ρ2, ?_, ?_, ?_⟩
                  · rw [e5]
                    exact HRel.turn t2 e3 (by simp) hL2 World.putObj_size (fun b hb => World.putObj_heap_other hb) ⟨_, World.putObj_heap_same (by have := t2.bound p L hL2; exact this), e1.symm, e2.symm, o3, a3, b3, n3, f3⟩ (by simp) lo3
                  · rw [e5]
                    exact ((p3.trans hS2).trans t3).trans (Step.turn t2 e3 (by simp) (by simp) hL2 World.putObj_size (fun b hb => World.putObj_heap_other hb) rfl rfl rfl)
                  · rw [e4]; exact rfl
                cases e with
                | normal =>
                  simp only [pendOf] at hev
                  split at hev
                  · rename_i x2 s4 q4 fr4 k4 x7 x8
                    cases x7
                    cases hev
                    cases e2 with
                    | normal => exact fin none 0 .nil _ _ _ _ rfl rfl x8 rfl rfl
                    | _ => exact t5.elim
                  · cases hev
                | exit i =>
                  simp only [pendOf] at hev
                  split at hev
                  · rename_i x2 s4 q4 fr4 k4 x7 x8
                    cases x7
                    cases hev
                    cases e2 with
                    | exit j => cases t5; exact fin (some (.exit i)) 2 (.int 0 i) _ _ _ _ rfl rfl x8 rfl rfl
                    | _ => exact t5.elim
                  · cases hev
                | goto i =>
                  simp only [pendOf] at hev
                  split at hev
                  · rename_i x2 s4 q4 fr4 k4 x7 x8
                    cases x7
                    cases hev
                    cases e2 with
                    | goto j => cases t5; exact fin (some (.goto i)) 2 (.int 1 i) _ _ _ _ rfl rfl x8 rfl rfl
                    | _ => exact t5.elim
                  · cases hev
                | ret =>
                  simp only [pendOf] at hev
                  split at hev
                  · rename_i x2 s4 q4 fr4 k4 x7 x8
                    cases x7
                    cases hev
                    cases e2 with
                    | ret => exact fin (some .ret) 2 (.bool true) _ _ _ _ rfl rfl x8 rfl rfl
                    | _ => exact t5.elim
                  · cases hev
                | pan v => simp only [pendOf] at hev; cases hev
              | _ => exact p5.elim
          · cases hev
        · cases hev
      · cases hev
  · cases hev

/-! Code. -/
theorem cond_ok (hF : FRel C ρ fr a.tmps) (hH : HRel P C.ng ρ H w) {c : Operand} {c' : Opd} {b : Bool} (h : opd C [] c = some c') (hb : condV fr c' = some b) : a.eval c = .bool b := by
  unfold condV at hb
  split at hb
  · rename_i b' he
    cases hb
    exact (opd_rel (ls := .nil) hF (fun t j v hn _ => by simp [nameAt] at hn) hH.globals h he).bool_eq
  · cases hb

theorem loop_step {ro : Option Nat} {tbl : Nat → Option CFunc} {ng n : Nat} (hC : CodeOk P tbl ng n) (hL : LoopOk P tbl ng n) {c : Code} {d : CCode} {r : Ex × Tr AV × Heap} (hd : codeP P C c = some d) (hng : C.ng = ng) (hpl : ro.isSome = true → d.plain = true)
    (hrun : stepC tbl (run tbl n) (.loop d) fr H = some r) (hF : FRel C ρ fr a.tmps) (hH : HRel P C.ng ρ H w) (b : Frame) (k : List Item) (cs : List Frame) (hro : b.roundOf = ro) :
    ∃ e a' w', Post P C ρ H w a.defers r e a' w' ∧ ArrivesIn (Machine.fenced P (fz ro)) P (lone (b.atR a (.code c :: .inLoop c :: k)) cs w) b k cs e a' w' := by
  simp only [stepC] at hrun
  split at hrun
  · rename_i fr1 H1 h1
    obtain ⟨e, a', w', hp, harr⟩ := hC ro C c d fr H _ hd hng hpl h1 ρ a w hF hH b (.inLoop c :: k) cs hro trivial (room_fz _ _)
    obtain ⟨ρ', p1, p2, p3, p4, p5⟩ := hp
    cases e with
    | normal =>
      obtain ⟨e2, a2, w2, hp2, harr2⟩ := hL ro C c d fr1 H1 r hd hng hpl hrun ρ' a' w' p1 p2 b k cs hro
      exact ⟨e2, a2, w2, hp2.more p3 p4, .of_steps (StepsIn.trans harr (oneR rfl stepR_inLoop)) harr2⟩
    | _ => exact p5.elim
  · rename_i hne
    obtain ⟨e, a', w', hp, harr⟩ := hC ro C c d fr H _ hd hng hpl hrun ρ a w hF hH b (.inLoop c :: k) cs hro trivial (room_fz _ _)
    have hnn : e ≠ .normal := by
      intro e0
      subst e0
      obtain ⟨ex, fr1, H1⟩ := r
      obtain ⟨ρ', p1, p2, p3, p4, p5⟩ := hp
      cases ex with
      | normal => exact absurd hrun (hne fr1 H1)
      | _ => exact p5.elim
    exact ⟨e, a', w', hp, .pass (x := .inLoop c) rfl (fun _ _ => .inl hnn) harr⟩

theorem scope_step {ro : Option Nat} {tbl : Nat → Option CFunc} {ng n : Nat} (hC : CodeOk P tbl ng n) (hS : ScopeOk P tbl ng n) {c d : Code} {cc dd : CCode} {r : Ex × Tr AV × Heap} (hc : codeP P C c = some cc) (hd : codeP P C d = some dd) (hng : C.ng = ng) (hpl : ro.isSome = true → cc.plain = true ∧ dd.plain = true)
    (hrun : stepC tbl (run tbl n) (.scope dd cc) fr H = some r) (hF : FRel C ρ fr a.tmps) (hH : HRel P C.ng ρ H w) (b : Frame) (k : List Item) (cs : List Frame) (hro : b.roundOf = ro) :
    ∃ e a' w', Post P C ρ H w a.defers r e a' w' ∧ ArrivesIn (Machine.fenced P (fz ro)) P (lone (b.atR a (.code d :: .inScope c :: k)) cs w) b k cs e a' w' := by
  simp only [stepC] at hrun
  have out : ∀ q, run tbl n dd fr H = some q → ∃ e a' w', Post P C ρ H w a.defers q e a' w' ∧ ArrivesIn (Machine.fenced P (fz ro)) P (lone (b.atR a (.code d :: .inScope c :: k)) cs w) b (.inScope c :: k) cs e a' w' :=
    fun q hq => hC ro C d dd fr H q hd hng (fun h => (hpl h).2) hq ρ a w hF hH b (.inScope c :: k) cs hro trivial (room_fz _ _)
  split at hrun
  · rename_i l fr1 H1 h1
    obtain ⟨e, a', w', hp, harr⟩ := out _ h1
    obtain ⟨ρ', p1, p2, p3, p4, p5⟩ := hp
    cases e with
    | goto l' =>
      have p5 : l = l' := p5
      subst p5
      rcases findLabel_comp hc l with ⟨f1, f2⟩ | ⟨x, y, f1, f2, f3⟩
      · rw [f2] at hrun
        cases hrun
        refine ⟨.goto l, a', w', ⟨ρ', p1, p2, p3, p4, rfl⟩, ?_⟩
        exact ⟨fun k' hk => harr.1 k' (by simp [gotoIn, f1, hk]), fun hr hk => harr.2 hr (by simp [gotoIn, f1, hk])⟩
      · rw [f2] at hrun
        obtain ⟨e2, a2, w2, hp2, harr2⟩ := hS ro C c cc x y fr1 H1 r hc f3 hng (fun h => ⟨(hpl h).1, findLabel_plain (hpl h).1 f2⟩) hrun ρ' a' w' p1 p2 b k cs hro
        exact ⟨e2, a2, w2, hp2.more p3 p4, .of_steps (harr.1 _ (by simp [gotoIn, f1])) harr2⟩
    | _ => exact p5.elim
  · rename_i hne
    obtain ⟨e, a', w', hp, harr⟩ := out _ hrun
    cases e with
    | normal => exact ⟨.normal, a', w', hp, StepsIn.trans harr (oneR rfl stepR_inScope)⟩
    | exit id => exact ⟨.exit id, a', w', hp, fun k' hk => harr.1 k' (by simp [exitTo, hk]), fun hr hk => harr.2 hr (by simp [exitTo, hk])⟩
    | goto l =>
      exfalso
      obtain ⟨ex, fr1, H1⟩ := r
      obtain ⟨ρ', p1, p2, p3, p4, p5⟩ := hp
      cases ex with
      | goto l' => exact absurd hrun (hne l' fr1 H1)
      | _ => exact p5.elim
    | ret => exact ⟨_, a', w', hp, harr⟩
    | panic ch => exact ⟨_, a', w', hp, harr⟩
    | outgrown => exact ⟨_, a', w', hp, harr⟩

theorem code_succ {tbl : Nat → Option CFunc} {ng n : Nat} (hT : TblOk P ng tbl) (hC : CodeOk P tbl ng n) (hL : LoopOk P tbl ng n) (hS : ScopeOk P tbl ng n) : CodeOk P tbl ng (n + 1) := by
  intro ro C c cc fr H r hc hng hpl hrun ρ a w hF hH
  have hyld := yield_of_code hC
  rw [← hng] at hyld
  have hcall := call_of_code hT hC
  rw [← hng] at hcall
  have hrun : stepC tbl (run tbl n) cc fr H = some r := hrun
  cases c with
  | skip =>
    simp only [codeP] at hc; cases hc
    cases hrun
    exact wpIn_skip ⟨ρ, hF, hH, Step.refl ρ H w, Marks.refl _ _ _ _ _, trivial⟩
  | label l =>
    simp only [codeP] at hc; cases hc
    cases hrun
    exact wpIn_label ⟨ρ, hF, hH, Step.refl ρ H w, Marks.refl _ _ _ _ _, trivial⟩
  | exit i =>
    simp only [codeP] at hc; cases hc
    cases hrun
    exact wpIn_exit ⟨ρ, hF, hH, Step.refl ρ H w, Marks.refl _ _ _ _ _, rfl⟩
  | goto l =>
    simp only [codeP] at hc; cases hc
    cases hrun
    exact wpIn_goto ⟨ρ, hF, hH, Step.refl ρ H w, Marks.refl _ _ _ _ _, rfl⟩
  | ret =>
    simp only [codeP] at hc; cases hc
    cases hrun
    exact wpIn_ret ⟨ρ, hF, hH, Step.refl ρ H w, Marks.refl _ _ _ _ _, trivial⟩
  | region id ops d =>
    simp only [codeP] at hc
    unfold regionP at hc
    split at hc
    · rename_i hd
      simp only [Bool.not_eq_true'] at hd
      subst hd
      obtain ⟨cs, hcs, rfl⟩ := Option.map_eq_some_iff.1 hc
      simp only [stepC] at hrun
      refine wpIn_region ?_
      have E : Env P C ρ (namesOf ops []) .nil fr a H w := ⟨hF, fun t j v hn _ => by simp [nameAt, namesOf] at hn, hH⟩
      split at hrun
      · rename_i ls' fr' H' he
        cases hrun
        exact region_ok hcall hyld _ _ _ _ _ _ _ _ _ _ _ hcs E he (fun e a' w' hp => hp)
      · rename_i v fr' H' he
        cases hrun
        exact region_ok hcall hyld _ _ _ _ _ _ _ _ _ _ _ hcs E he (fun e a' w' hp => hp)
      · cases hrun
    · rename_i hd
      simp only [Bool.not_eq_true', Bool.not_eq_false] at hd
      subst hd
      obtain ⟨ds, hds, rfl⟩ := Option.map_eq_some_iff.1 hc
      simp only [stepC] at hrun
      refine wpIn_region_any hT.mixed ?_
      split at hrun
      · rename_i fr' H' he
        cases hrun
        exact draw_ok hcall hds hF hH he _ (fun e a' w' hp => hp)
      · cases hrun
  | seq x y =>
    simp only [codeP] at hc
    split at hc
    · rename_i cx cy hx hy
      cases hc
      simp only [stepC] at hrun
      refine wpIn_seq ?_
      split at hrun
      · rename_i fr1 H1 h1
        refine wpIn_mono (hC ro C x cx fr H _ hx hng (fun h => (by have := hpl h; simp only [CCode.plain, Bool.and_eq_true] at this; exact this.1)) h1 ρ a w hF hH) ?_
        intro e a' w' hp
        obtain ⟨ρ', p1, p2, p3, p4, p5⟩ := hp
        cases e with
        | normal =>
          refine wpIn_mono (hC ro C y cy fr1 H1 r hy hng (fun h => (by have := hpl h; simp only [CCode.plain, Bool.and_eq_true] at this; exact this.2)) hrun ρ' a' w' p1 p2) ?_
          intro e a'' w'' hq
          exact hq.more p3 p4
        | _ => exact p5.elim
      · rename_i hne
        refine wpIn_mono (hC ro C x cx fr H _ hx hng (fun h => (by have := hpl h; simp only [CCode.plain, Bool.and_eq_true] at this; exact this.1)) hrun ρ a w hF hH) ?_
        intro e a' w' hp
        cases e with
        | normal =>
          obtain ⟨ex, fr1, H1⟩ := r
          obtain ⟨ρ', p1, p2, p3, p4, p5⟩ := hp
          cases ex with
          | normal => exact absurd hrun (hne fr1 H1)
          | _ => exact p5.elim
        | _ => exact hp
    · cases hc
  | cond x c1 c2 =>
    simp only [codeP] at hc
    split at hc
    · rename_i x' d1 d2 hx h1 h2
      cases hc
      simp only [stepC] at hrun
      split at hrun
      · rename_i hb
        exact wpIn_cond_true (cond_ok hF hH hx hb) (hC ro C c1 d1 fr H r h1 hng (fun h => (by have := hpl h; simp only [CCode.plain, Bool.and_eq_true] at this; exact this.1)) hrun ρ a w hF hH)
      · rename_i hb
        exact wpIn_cond_false (cond_ok hF hH hx hb) (hC ro C c2 d2 fr H r h2 hng (fun h => (by have := hpl h; simp only [CCode.plain, Bool.and_eq_true] at this; exact this.2)) hrun ρ a w hF hH)
      · cases hrun
    · cases hc
  | block id c =>
    simp only [codeP] at hc
    obtain ⟨d, hd, rfl⟩ := Option.map_eq_some_iff.1 hc
    simp only [stepC] at hrun
    refine wpIn_block ?_
    split at hrun
    · rename_i e1 fr1 H1 h1
      cases hrun
      refine wpIn_mono (hC ro C c d fr H _ hd hng hpl h1 ρ a w hF hH) ?_
      intro e a' w' hp
      obtain ⟨ρ', p1, p2, p3, p4, p5⟩ := hp
      cases e1 with
      | exit i =>
        cases e with
        | exit j =>
          have p5 : i = j := p5
          subst p5
          simp only [Exit.inBlock, atBlock]
          split
          · exact ⟨ρ', p1, p2, p3, p4, trivial⟩
          · exact ⟨ρ', p1, p2, p3, p4, rfl⟩
        | _ => exact p5.elim
      | _ => cases e <;> first | exact p5.elim | exact ⟨ρ', p1, p2, p3, p4, p5⟩
    · cases hrun
  | loop c =>
    simp only [codeP] at hc
    obtain ⟨d, hd, rfl⟩ := Option.map_eq_some_iff.1 hc
    intro b k cs hro _ _
    suffices h : ∃ e a' w', Post P C ρ H w a.defers r e a' w' ∧ ArrivesIn (Machine.fenced P (fz ro)) P (lone (b.atR a (.code c :: .inLoop c :: k)) cs w) b k cs e a' w' by
      obtain ⟨e, a', w', h1, h2⟩ := h
      exact ⟨e, a', w', h1, .of_steps (oneR rfl stepR_loop) h2⟩
    exact loop_step hC hL hd hng hpl hrun hF hH b k cs hro
  | scope c =>
    simp only [codeP] at hc
    obtain ⟨d, hd, rfl⟩ := Option.map_eq_some_iff.1 hc
    intro b k cs hro _ _
    suffices h : ∃ e a' w', Post P C ρ H w a.defers r e a' w' ∧ ArrivesIn (Machine.fenced P (fz ro)) P (lone (b.atR a (.code c :: .inScope c :: k)) cs w) b k cs e a' w' by
      obtain ⟨e, a', w', h1, h2⟩ := h
      exact ⟨e, a', w', h1, .of_steps (oneR rfl stepR_scope) h2⟩
    exact scope_step hC hS hd hd hng (fun h => by have := hpl h; simpa [CCode.plain] using this) hrun hF hH b k cs hro
  | rangeFunc f ps x y =>
    simp only [codeP] at hc
    split at hc
    · rename_i g' cx cy hg hx hy
      split at hc
      · rename_i hcond
        cases hc
        simp only [Bool.and_eq_true, List.all_eq_true, decide_eq_true_eq] at hcond
        obtain ⟨⟨hpx, hpy⟩, hps⟩ := hcond
        have hro : ro = none := by
          cases ro with
          | none => rfl
          | some l => have := hpl rfl; cases this
        subst hro
        simp only [stepC] at hrun
        split at hrun
        · rename_i fid av bv hgv
          obtain ⟨xs, ys, f', e1, e2, i1, i2, r1, r2⟩ := opd_rel (ls := .nil) hF (fun t j v hn _ => by simp [nameAt] at hn) hH.globals hg hgv
          cases e1
          have hfe : a.eval f = .func (.func fid) xs ys := by simpa using e2
          refine wpIn_rangeFunc fun fn _ => ?_
          generalize hr0 : ({ state := .ready, pending := none, fn := fn, tmps := a.tmps, params := ps, assign := x, body := y, defers := w.heap.size } : Loop) = r0
          have hHp := hH.push (.deferred (some []))
          have hSp := Step.push hH (.deferred (some []))
          have hlo : (AO.loop 0 .nil (canonF fr C.n) ⟨ps.toList, cx, cy, x, y, C.n, C.far⟩).loopOk P C.ng := ⟨hx, hy, hpx, hpy, hps⟩
          have hob : ∀ ρ', Ext ρ ρ' → HO ρ' ((w.alloc (.deferred (some []))).alloc (.loop r0)) ⟨(w.alloc (.deferred (some []))).heap.size, 0, 0⟩ (AO.loop 0 .nil (canonF fr C.n) ⟨ps.toList, cx, cy, x, y, C.n, C.far⟩) := by
            intro ρ' he
            subst hr0
            exact ⟨_, World.alloc_heap_new _ _, rfl, rfl, rfl, rfl, rfl, hF.size, fun t v ht hv => (hF.mono he).far t v ht (canonF_get hv)⟩
          have hH1 := HRel.alloc hHp (o := .loop r0) (w' := (w.alloc (.deferred (some []))).alloc (.loop r0)) rfl hob (by simp) hlo
          have hS1 := hSp.trans (Step.alloc hHp (o := .loop r0) (ao := AO.loop 0 .nil (canonF fr C.n) ⟨ps.toList, cx, cy, x, y, C.n, C.far⟩) (sz := 0) (w' := (w.alloc (.deferred (some []))).alloc (.loop r0)) rfl rfl rfl rfl)
          have hl : (w.alloc (.deferred (some []))).heap.size = w.heap.size + 1 := World.size_alloc _ _
          rw [hl] at hH1 hS1
          have hext := hS1.ext
          generalize hρ1 : ρ.put H.next ⟨w.heap.size + 1, 0, 0⟩ = ρ1 at *
          have hL1 : ρ1 H.next = some ⟨w.heap.size + 1, 0, 0⟩ := by rw [← hρ1]; simp [Ren.put]
          generalize hH1e : (H.new (AO.loop 0 .nil (canonF fr C.n) ⟨ps.toList, cx, cy, x, y, C.n, C.far⟩)).2 = H1 at *
          have hw1s : ((w.alloc (.deferred (some []))).alloc (.loop r0)).heap.size = w.heap.size + 2 := by rw [World.size_alloc, hl]
          have hmark : MarkAt w ρ1 H1 ((w.alloc (.deferred (some []))).alloc (.loop r0)) w.heap.size := by
            refine ⟨Nat.le_refl _, ?_, fun p L hlv hp e => ?_⟩
            · show ((w.heap.push _).push _)[w.heap.size]? = _
              rw [Array.getElem?_push, if_neg (by simp), Array.getElem?_push, if_pos rfl]
            · rw [← hρ1] at hp
              unfold Ren.put at hp
              split at hp
              · cases hp; simp at e
              · have := hH.bound p L hp; omega
          have henter := run_enterLoop_outer (P := P) (w := w) fn a.tmps ps x y
          rw [hr0] at henter
          generalize hw1 : (w.alloc (.deferred (some []))).alloc (.loop r0) = w1 at *
          have hRX : RX ρ1 (av.app (.cons (.yield H.next) bv)) ((xs ++ #[Value.func (.yield (w.heap.size + 1)) #[] #[]]) ++ ys).toList := by
            have := (r1.mono hext).app i1 (show RX ρ1 (.cons (.yield H.next) bv) (Value.func (.yield (w.heap.size + 1)) #[] #[] :: ys.toList) from ⟨_, _, rfl, ⟨_, hL1, rfl⟩, r2.mono hext⟩)
            simpa using this
          have hli : (av.app (.cons (.yield H.next) bv)).isList = true := AV.isList_app i1 i2
          have hrun2 : ∃ cr H2, doCall tbl (run tbl n) fid (av.app (.cons (.yield H.next) bv)) H1 = some (cr, H2) := by
            cases hd : doCall tbl (run tbl n) fid (av.app (.cons (.yield H.next) bv)) H1 with
            | none => rw [hd] at hrun; cases hrun
            | some q => exact ⟨q.1, q.2, rfl⟩
          obtain ⟨cr, H2, hcl⟩ := hrun2
          rw [hcl] at hrun
          obtain ⟨⟨fnr, k1, k2, k3⟩, hcw⟩ := hcall fid _ H1 cr H2 hcl
          have hinv : (invoke (.fn (.func fid) ys) (xs ++ #[Value.func (.yield (w.heap.size + 1)) #[] #[]])).run P w1 = .ok (.enter fid ((xs ++ #[Value.func (.yield (w.heap.size + 1)) #[] #[]]) ++ ys)) w1 := run_callFunc k1 k2 k3 w1
          refine ⟨w.heap.size + 1, [markD w.heap.size], w1, { target := .fn (.func fid) ys, args := xs ++ #[Value.func (.yield (w.heap.size + 1)) #[] #[]] }, w1, fid, (xs ++ #[Value.func (.yield (w.heap.size + 1)) #[] #[]]) ++ ys, w1, henter, ?_, fun _ _ => trivial, hinv, fun h => (by cases h), callsIn_fz.2 ?_⟩
          · show (Deferred.ofValue (a.eval f) _).run P w1 = _
            rw [hfe]
            have hm : (rangeCall f (w.heap.size + 1)).args.map a.eval = #[.func (.yield (w.heap.size + 1)) #[] #[]] := by simp only [rangeCall, List.map_toArray, List.map_cons, List.map_nil]; rfl
            rw [hm]
            rfl
          · refine Calls.mono (hcw ρ1 w1 _ hH1 hRX hli) ?_
            intro e w3 ⟨ρ2, u1, u2, u3⟩
            have hL2 := u2.ext _ _ hL1
            have hS2 := hS1.trans u2
            cases cr with
            | pan v =>
              simp only [Option.some.injEq] at hrun
              cases hrun
              cases e with
              | panicked ch =>
                obtain ⟨z, rfl, hz⟩ := u3
                exact ⟨ρ2, hF.mono hS2.ext, u1, hS2, ⟨[w.heap.size], rfl, by simp, fun q hq => by rw [List.mem_singleton.1 hq]; exact hmark.step u2⟩, z, rfl, hz⟩
              | _ => exact u3.elim
            | ret v =>
              cases e with
              | returned z =>
                simp only at hrun
                split at hrun
                · rename_i st pe fr' k' hob2
                  split at hrun
                  · cases hrun
                  · rename_i hst
                    split at hrun
                    · rename_i ex hex
                      cases hrun
                      obtain ⟨r3, v3, s3, q3, o3, a3, b3, n3, f3⟩ := u1.objs H.next _ _ hob2 (by simp) hL2
                      have hnb : r3.state ≠ .busy := by
                        rw [s3]
                        intro e
                        match st, hst, e with
                        | 0, _, e => cases e
                        | 1, h, _ => exact h rfl
                        | 2, _, e => cases e
                        | n + 3, _, e => cases e
                      have lo3 : (AO.loop 3 pe fr' k').loopOk P C.ng := (u1.loops H.next (.loop st pe fr' k') hob2 :)
                      have hH3 : HRel P C.ng ρ2 (H2.put H.next (.loop 3 pe fr' k')) (w3.putObj (w.heap.size + 1) (.loop { r3 with state := .exhausted })) :=
                        HRel.turn u1 hob2 (by simp) hL2 World.putObj_size (fun b hb => World.putObj_heap_other hb) ⟨_, World.putObj_heap_same (by have := u1.bound _ _ hL2; exact this), rfl, q3, o3, a3, b3, n3, f3⟩ (by simp) lo3
                      have hS3 : Step ρ2 H2 w3 ρ2 (H2.put H.next (.loop 3 pe fr' k')) (w3.putObj (w.heap.size + 1) (.loop { r3 with state := .exhausted })) :=
                        Step.turn u1 hob2 (by simp) (by simp) hL2 World.putObj_size (fun b hb => World.putObj_heap_other hb) rfl rfl rfl
                      have post : ∀ (ee : Exit), ExRel ρ2 ex ee → Post P C ρ H w a.defers (ex, fr, H2.put H.next (.loop 3 pe fr' k')) ee { a with defers := [markD w.heap.size] ++ a.defers } (w3.putObj (w.heap.size + 1) (.loop { r3 with state := .exhausted })) := fun ee hee =>
                        ⟨ρ2, hF.mono hS2.ext, hH3, hS2.trans hS3, ⟨[w.heap.size], rfl, by simp, fun q hq => by rw [List.mem_singleton.1 hq]; exact (hmark.step u2).step hS3⟩, hee⟩
                      refine ⟨r3.pending, _, run_endLoop v3 hnb, ?_⟩
                      rw [q3] at post ⊢
                      unfold exOf at hex
                      split at hex
                      · cases hex; exact post .normal trivial
                      · cases hex; exact wpIn_exit (post (.exit _) rfl)
                      · cases hex; exact wpIn_goto (post (.goto _) rfl)
                      · cases hex; exact wpIn_ret (post .ret trivial)
                      · cases hex
                    · cases hrun
                · cases hrun
              | _ => exact u3.elim
        · cases hrun
      · cases hc
    · cases hc
  | refuse s => simp only [codeP] at hc; cases hc

theorem all_ok {tbl : Nat → Option CFunc} {ng : Nat} (hT : TblOk P ng tbl) : ∀ n, CodeOk P tbl ng n ∧ LoopOk P tbl ng n ∧ ScopeOk P tbl ng n := by
  intro n
  induction n with
  | zero =>
    refine ⟨?_, ?_, ?_⟩
    · intro ro C c cc fr H r _ _ _ h; cases h
    · intro ro C c cc fr H r _ _ _ h; cases h
    · intro ro C c cc d dd fr H r _ _ _ _ h; cases h
  | succ n ih =>
    obtain ⟨h1, h2, h3⟩ := ih
    exact ⟨code_succ hT h1 h2 h3, fun ro C c cc fr H r hc hng hpl hr ρ a w hF hH b k cs hro => loop_step h1 h2 hc hng hpl hr hF hH b k cs hro,
      fun ro C c cc d dd fr H r hc hd hng hpl hr ρ a w hF hH b k cs hro => scope_step h1 h3 hc hd hng hpl hr hF hH b k cs hro⟩

/-- What the semantics says of a call is what the model does. -/
theorem callN_ok {tbl : Nat → Option CFunc} {ng : Nat} (hT : TblOk P ng tbl) (n : Nat) : CallOk P ng (callN tbl n) := call_of_code hT (all_ok hT n).1

end
end Go.Dx
