/-
  A region that does not draw: what it comes to.
-/
import Derived.Test.YthpnhdopheofcaaDxOpJ
set_option linter.unusedSimpArgs false
set_option linter.unusedVariables false
namespace Go.Dx

/-- How a call's end stands for one of the model. -/
def EndRel (ρ : Ren) : CR → Ending → Prop
  | .ret v, .returned x => RX ρ v [x]
  | .pan v, .panicked c => ∃ x, c = [{ v := x, recovered := false }] ∧ RX ρ v [x]
  | _, _ => False

/-- Whoever calls gets what the semantics says. -/
def CallOk (P : Program) (ng : Nat) (call : Nat → AV → Heap → Option (CR × Heap)) : Prop :=
  ∀ f as H r H', call f as H = some (r, H') →
    (∃ fn, P.funcs[f]? = some fn ∧ fn.body.isSome = true ∧ fn.name ≠ "runtime.NumGoroutine") ∧
    ∀ ρ w (args : Array Value), HRel ng ρ H w → RX ρ as args.toList → as.isList = true →
      Calls P f args w fun e w' => ∃ ρ', HRel ng ρ' H' w' ∧ Step ρ H w ρ' H' w' ∧ EndRel ρ' r e

/-- How code's end stands for one of the model. -/
def ExRel (ρ : Ren) : Ex → Exit → Prop
  | .normal, .normal => True
  | .exit i, .exit j => i = j
  | .goto i, .goto j => i = j
  | .ret, .ret => True
  | .pan v, .panic c => ∃ x, c = [{ v := x, recovered := false }] ∧ RX ρ v [x]
  | _, _ => False

def Post (C : Ctx) (ρ : Ren) (H : Heap) (w : World) (ds : List Deferred) (r : Ex × Tr AV × Heap) (e : Exit) (a' : Act) (w' : World) : Prop :=
  ∃ ρ', FRel C ρ' r.2.1 a'.tmps ∧ HRel C.ng ρ' r.2.2 w' ∧ Step ρ H w ρ' r.2.2 w' ∧ a'.defers = ds ∧ ExRel ρ' r.1 e

section
variable {P : Program} {C : Ctx} {ρ : Ren} {ns : List (Option Tmp)} {ls : AV} {fr : Tr AV} {a : Act} {H H' : Heap} {w : World} {v : AV} {ci : CI} {o : Oper} {ops : Array Oper}

theorem put_tmps_ne {x : Value} {d : Option Tmp} {t : Tmp} (h : d ≠ some t) : (a.put d x).tmps[t]? = a.tmps[t]? := by
  cases d with
  | none => rfl
  | some d =>
    have : d ≠ t := fun e => h (e ▸ rfl)
    simp [Act.put, Array.getElem?_setIfInBounds_ne this]

theorem put_tmps_eq {x : Value} {t : Tmp} (h : t < a.tmps.size) : (a.put (some t) x).tmps[t]? = some x := by
  simp [Act.put, Array.getElem?_setIfInBounds_self_of_lt h]

theorem put_size {x : Value} {d : Option Tmp} : (a.put d x).tmps.size = a.tmps.size := by cases d <;> simp [Act.put]

theorem put_defers {x : Value} {d : Option Tmp} : (a.put d x).defers = a.defers := by cases d <;> rfl

theorem dstOk_lt {d : Tmp} (h : dstOk C ns (some d) = true) : d < C.n ∧ nameAt ns d = none := by
  simpa [dstOk] using h

theorem LRel.put (hL : LRel ρ ns ls a.tmps) (hs : C.n ≤ a.tmps.size) {x : Value} (hx : RX ρ v [x]) {d : Option Tmp} (hd : dstOk C ns d = true) : LRel ρ (d :: ns) (.cons v ls) (a.put d x).tmps := by
  intro t j u hn hu
  unfold nameAt at hn
  rw [List.idxOf?_cons] at hn
  split at hn
  · rename_i e
    have e : d = some t := by simpa using e
    subst e
    cases hn
    simp [AV.nth] at hu
    subst hu
    exact ⟨x, put_tmps_eq (Nat.lt_of_lt_of_le (dstOk_lt hd).1 hs), hx⟩
  · rename_i e
    have e : d ≠ some t := by simpa using e
    obtain ⟨k, hk, rfl⟩ := Option.map_eq_some_iff.1 hn
    obtain ⟨y, hy, hr⟩ := hL t k u hk (by simpa [AV.nth] using hu)
    exact ⟨y, by rw [put_tmps_ne e]; exact hy, hr⟩

theorem FRel.put (hF : FRel C ρ fr a.tmps) {x : Value} (hx : RX ρ v [x]) {d : Option Tmp} (hd : dstOk C ns d = true) : FRel C ρ (setDst fr (farDst C d) v) (a.put d x).tmps := by
  refine ⟨by rw [put_size]; exact hF.size, ?_⟩
  intro t u ht hu
  by_cases e : d = some t
  · subst e
    simp only [farDst, ht, if_true, setDst, Tr.get_set_same] at hu
    cases hu
    exact ⟨x, put_tmps_eq (Nat.lt_of_lt_of_le (dstOk_lt hd).1 hF.size), hx⟩
  · have hu' : fr.get (key (t + 1)) = some u := by
      cases d with
      | none => exact hu
      | some d =>
        simp only [farDst] at hu
        split at hu
        · simp only [setDst] at hu
          rwa [Tr.get_set_ne (fun h => e (by have := key_inj h; simp at this; rw [this]))] at hu
        · exact hu
    obtain ⟨y, hy, hr⟩ := hF.far t u ht hu'
    exact ⟨y, by rw [put_tmps_ne e]; exact hy, hr⟩

theorem wanted_ok {g : Option (Nat × Bool)} {b : Bool} (hL : LRel ρ ns ls a.tmps) (hg : guardP ops ns o.guard = some g) (hw : wanted ls g = some b) : Region.wanted o (yielded ops a.tmps) = b := by
  unfold Region.wanted
  cases hgd : o.guard with
  | none =>
    rw [hgd] at hg
    simp only [guardP] at hg
    cases hg
    simp [wanted] at hw
    simpa using hw
  | some gb =>
    obtain ⟨j, c⟩ := gb
    rw [hgd] at hg
    simp only [guardP] at hg
    split at hg
    · rename_i d hd
      obtain ⟨k, hk, rfl⟩ := Option.map_eq_some_iff.1 hg
      simp only [wanted] at hw
      split at hw
      · rename_i e hn
        cases hw
        obtain ⟨x, hx, hr⟩ := hL d k _ hk hn
        have := hr.bool_eq
        subst this
        simp only [yielded, hd, Option.bind_some, hx]
        rfl
      · rename_i hn
        cases hw
        obtain ⟨x, hx, hr⟩ := hL d k _ hk hn
        obtain ⟨xs, e, _, hr'⟩ := hr.tuple_eq
        subst e
        simp only [yielded, hd, Option.bind_some, hx]
        rfl
      · cases hw
    · cases hg

/-- An operation that is done: what it comes to, by what it answers. -/
theorem op_wp {call : Nat → AV → Heap → Option (CR × Heap)} (hcall : CallOk P C.ng call) (E : Env P C ρ ns ls fr a H w) (hci : opP P C ns o.op = some ci) {r : CR} (hev : CI.run call ls fr H ci = some (r, H')) {K : Act → World → Prop} {Q : Exit → Act → World → Prop}
    (hr : ∀ v, r = .ret v → ∀ ρ' w' x, RX ρ' v [x] → HRel C.ng ρ' H' w' → Step ρ H w ρ' H' w' → K (a.put o.dst x) w')
    (hp : ∀ v, r = .pan v → ∀ ρ' w' x, RX ρ' v [x] → HRel C.ng ρ' H' w' → Step ρ H w ρ' H' w' → Q (.panic [{ v := x, recovered := false }]) a w') :
    o.wp P a w K Q := by
  have called : ∀ f as, callee ls fr ci = some (f, as) → call f as H = some (r, H') → o.wp P a w K Q := by
    intro f as hc hcl
    obtain ⟨⟨fn, h1, h2, h3⟩, hC⟩ := hcall f as H r H' hcl
    obtain ⟨args, ha, hra, hl⟩ := call_ok E hci hc h1 h2 h3
    unfold Oper.wp
    rw [ha, Oper.upon_enter]
    refine Calls.mono (hC ρ w args E.H hra hl) ?_
    intro e w' ⟨ρ', k1, k2, k3⟩
    cases r with
    | ret v =>
      cases e with
      | returned x => exact hr v rfl ρ' w' x k3 k1 k2
      | _ => exact k3.elim
    | pan v =>
      cases e with
      | panicked c => obtain ⟨x, rfl, hx⟩ := k3; exact hp v rfl ρ' w' x hx k1 k2
      | _ => exact k3.elim
  have plain : ci.isCall = false → (∀ x, ci ≠ .panic x) → (∃ v, ci.ev ls fr H = some (v, H') ∧ r = .ret v) → o.wp P a w K Q := by
    intro hnc hnp ⟨v, hv, e⟩
    obtain ⟨ρ', w', x, nx, r1, r2, r3, r4, r5⟩ := op_ok E hci hnc hv
    unfold Oper.wp
    rw [r1]
    rcases r2 with rfl | ⟨rfl, rfl⟩
    · exact hr v e ρ' w' x r3 r4 r5
    · exact hr v e ρ' w' _ r3 r4 r5
  cases ci with
  | callF f args =>
    obtain ⟨⟨g, as⟩, h1, h2⟩ := bindO hev
    exact called g as h1 h2
  | callV f args =>
    obtain ⟨⟨g, as⟩, h1, h2⟩ := bindO hev
    exact called g as h1 h2
  | panic y =>
    obtain ⟨u, h1, h2⟩ := bindO hev
    split at h2
    · rename_i t z
      cases h2
      obtain ⟨x, hx, hrx⟩ := panic_ok E hci h1
      unfold Oper.wp
      rw [hx, Oper.upon_panic]
      exact hp _ rfl ρ w x hrx E.H (Step.refl ρ H w)
    · cases h2
  | mkMap => exact plain rfl (fun _ h => by cases h) (by cases hev; exact ⟨_, rfl, rfl⟩)
  | lit u => exact plain rfl (fun _ h => by cases h) (by cases hev; exact ⟨_, rfl, rfl⟩)
  | _ =>
    refine plain rfl (fun _ h => by cases h) ?_
    obtain ⟨⟨v, H1⟩, h1, h2⟩ := bindO hev
    cases h2
    exact ⟨v, h1, rfl⟩

theorem region_ok {call : Nat → AV → Heap → Option (CR × Heap)} (hcall : CallOk P C.ng call) (Q : Exit → Act → World → Prop) : ∀ (l done : List Nat) (cs : CIs) (ls : AV) (fr : Tr AV) (H : Heap) (a : Act) (w : World) (ρ : Ren) (r : RO),
    opsP P C ops l done = some cs → Env P C ρ (namesOf ops done) ls fr a H w → CIs.run call cs ls fr H = some r →
    (∀ e a' w', (match r with
      | .ok _ fr' H' => Post C ρ H w a.defers (.normal, fr', H') e a' w'
      | .pan v fr' H' => Post C ρ H w a.defers (.pan v, fr', H') e a' w') → Q e a' w') →
    wpOps P ops Q l a w := by
  intro l
  induction l with
  | nil =>
    intro done cs ls fr H a w ρ r hc E hrun hQ
    simp only [opsP] at hc
    cases hc
    simp only [CIs.run] at hrun
    cases hrun
    exact hQ _ _ _ ⟨ρ, E.F, E.H, Step.refl ρ H w, rfl, trivial⟩
  | cons i l ih =>
    intro done cs ls fr H a w ρ r hc E hrun hQ
    simp only [opsP] at hc
    split at hc
    · cases hc
    · rename_i o ho
      split at hc
      · cases hc
      · rename_i hd
        simp only [Bool.not_eq_true', Bool.not_eq_false] at hd
        split at hc
        · rename_i g ci cs' hg hci hcs
          cases hc
          have hn : namesOf ops (i :: done) = o.dst :: namesOf ops done := by simp [namesOf, ho]
          simp only [wpOps, ho]
          have next : ∀ ρ' v x H1 w', RX ρ' v [x] → HRel C.ng ρ' H1 w' → Step ρ H w ρ' H1 w' → CIs.run call cs' (.cons v ls) (setDst fr (farDst C o.dst) v) H1 = some r → wpOps P ops Q l (a.put o.dst x) w' := by
            intro ρ' v x H1 w' hx hH hS hrun'
            have E' : Env P C ρ' (namesOf ops (i :: done)) (.cons v ls) (setDst fr (farDst C o.dst) v) (a.put o.dst x) H1 w' := by
              rw [hn]
              exact ⟨(E.F.mono hS.ext).put hx hd, (E.L.mono hS.ext).put E.F.size hx hd, hH⟩
            refine ih (i :: done) cs' _ _ H1 _ w' ρ' r hcs E' hrun' ?_
            intro e a' w'' hp
            refine hQ e a' w'' ?_
            rw [put_defers] at hp
            cases r <;>
            · obtain ⟨ρ'', p1, p2, p3, p4, p5⟩ := hp
              exact ⟨ρ'', p1, p2, hS.trans p3, p4, p5⟩
          simp only [CIs.run] at hrun
          split at hrun
          · cases hrun
          · rename_i hw
            rw [wanted_ok E.L hg hw]
            simp only [Bool.false_eq_true, if_false]
            exact next ρ undefA undef H w (RX.undef ρ) E.H (Step.refl ρ H w) hrun
          · rename_i hw
            rw [wanted_ok E.L hg hw]
            simp only [if_true]
            left
            split at hrun
            · rename_i v H1 hev
              refine op_wp hcall E hci hev ?_ ?_
              · intro v' e ρ' w' x hx hH hS
                cases e
                exact next ρ' v x H1 w' hx hH hS hrun
              · intro v' e; cases e
            · rename_i v H1 hev
              cases hrun
              refine op_wp hcall E hci hev ?_ ?_
              · intro v' e; cases e
              · intro v' e ρ' w' x hx hH hS
                cases e
                exact hQ _ _ _ ⟨ρ', E.F.mono hS.ext, hH, hS, rfl, x, rfl, hx⟩
            · cases hrun
        · cases hc

end
end Go.Dx
