/-
  Regions that draw: any operation that may come next, and the whole.
-/
import Derived.Test.YtnlbchnlbpaflaaGreatDoorDxInv
set_option linter.unusedSimpArgs false
set_option linter.unusedVariables false
set_option linter.unusedSectionVars false
namespace Go.Dx

section
variable {pl : PL}
variable {P : Program} {C : Ctx} {ops : Array Oper} {pr : List (List Nat)} {call : Nat → AV → Heap → Option (CR × Heap)}
variable {n : Nat} {st : Nat → DS} {id : Nat → Nat} {h : Nat → Bool} {f : Nat → Option (Pos × AO)} {vl : Nat → AV}
variable {ρ0 ρ : Ren} {H0 : Heap} {w0 w : World} {a0 a : Act} {listed : Array Bool} {m : Nat}

theorem inv_step {ro : Option Nat} (hcall : CallOk P C.ng call) (W : Way P C ops pr call n st id h f vl) (hF0 : FRel C ρ0 (st 0).fr a0.tmps) {Q : Exit → Act → World → Prop} (I : Inv P C ops pr n st id h f vl ρ0 H0 w0 a0 listed a w ρ m) {i : Nat} (hi : i ∈ Region.ready .any ops listed)
    {K : Act → World → Prop} (hK : ∀ a' w' ρ' m', Inv P C ops pr n st id h f vl ρ0 H0 w0 a0 (listed.setIfInBounds i true) a' w' ρ' m' → K a' w') : wpOpIn (fz ro) 0 P ops Q i K a w := by
  obtain ⟨hun, o, ho, hedge⟩ := mem_ready.1 hi
  obtain ⟨hX, hlt⟩ := lst_not hun
  obtain ⟨p, hp, rfl⟩ := W.onto (i := i) (by rw [← I.sz]; exact hlt)
  have Fp := W.facts hp
  obtain ⟨o', ho', hpl'⟩ := Fp.op
  rw [ho] at ho'
  cases ho'
  have hpl := placed_spec hpl'
  have hpr : ∀ k ∈ pr.getD (id p) [], Lst listed k := by
    intro k hk
    rcases hpl.2.2.1 k hk with ⟨e, he, hb, rfl⟩ | ⟨e, he, hb, hk'⟩
    · exact hedge e he hb
    · exact I.closed e.on (hedge e he hb) k hk'
  have hmp : m ≤ p := by
    rcases Nat.lt_or_ge p m with h | h
    · exact (hX (I.low p h)).elim
    · exact h
  have hEM := I.rel.sub (I.over W hmp (Nat.le_of_lt hp))
  -- a heavy one: all ahead of it was done, and nothing heavy since
  have hheavy : h p = true → (∀ q, q < p → Lst listed (id q)) ∧ EAt st f m p = (st p).H ∧ f p = none := by
    intro hh
    obtain ⟨h1, h2, _⟩ := Fp.heavy hh
    have hall : ∀ q, q < p → Lst listed (id q) := by
      intro q hq
      rw [List.all_eq_true] at h1
      exact hpr _ (List.contains_iff_mem.1 (h1 (id q) ((W.mem (by omega) _).2 ⟨q, hq, rfl⟩)))
    refine ⟨hall, W.quiet hmp (by omega) ?_, h2⟩
    intro r hr1 hr2
    cases hr : h r with
    | false => rfl
    | true => exact (I.high r hr1 (by omega) hr (hall r hr2)).elim
  -- behind a heavy one
  have heavyNext : h p = true → ∀ {x : Value} {ρ' : Ren} {w' : World}, RX ρ' (vl p) [x] → HRel P C.ng ρ' (st (p + 1)).H w' → Step ρ (EAt st f m p) w ρ' (st (p + 1)).H w' →
      Inv P C ops pr n st id h f vl ρ0 H0 w0 a0 (listed.setIfInBounds (id p) true) (a.put o.dst x) w' ρ' (p + 1) := by
    intro hh x ρ' w' hx hH hS
    obtain ⟨hall, hE, hf⟩ := hheavy hh
    have hlook : ∀ q, look f q p (n - p) = look f q (p + 1) (n - (p + 1)) := by
      intro q
      rw [show n - p = (n - (p + 1)) + 1 by omega]
      simp only [look, hf]
      cases look f q (p + 1) (n - (p + 1)) <;> rfl
    obtain ⟨c1, c2⟩ := carry (M' := EAt st f (p + 1) n) I.rel hH hS (I.over W hmp (Nat.le_of_lt hp)) (fun q => by rw [hlook]; unfold EAt; rw [adds_get]) (by unfold EAt; rw [adds_next])
    refine I.next W hp hF0 hX hpr ho hS.ext hx c1 (I.stp.trans c2) (by omega) ?_ ?_ ?_ ?_
    · intro q hq
      by_cases e : q = p
      · exact .inr e
      · exact .inl (hall q (by omega))
    · intro q h1 h2 h3
      exact ⟨I.high q (by omega) h2 h3, by omega⟩
    · intro q nm ob hq hfq hl _
      cases hnm : ρ' nm with
      | none => rfl
      | some K =>
        have h0 := I.tocome q nm ob hq hfq hl
        have h1 := hS.new nm K h0 hnm
        have hpq : p ≤ q := by
          rcases Nat.lt_or_ge q p with h | h
          · exact (hl (hall q h)).elim
          · exact h
        have h2 := (I.namesAt W hmp (Nat.le_of_lt hp) nm (W.name_mem hpq hq hfq)).1
        omega
    · intro q hq
      have hR : (st (p + 1)).R = (st p).R := (Fp.none hf).1
      rw [hR] at hq
      obtain ⟨k1, k2, k3⟩ := I.namesAt W hmp (Nat.le_of_lt hp) q hq
      exact ⟨Nat.lt_of_lt_of_le k1 hS.next, hS.old q k1 k2, k3⟩
  -- behind a light one, or one that was not wanted
  have lightNext : h p = false → f p = none → ∀ {x : Value} {ρ' : Ren} {w' : World}, RX ρ' (vl p) [x] → HRel P C.ng ρ' (EAt st f m p) w' → Step ρ (EAt st f m p) w ρ' (EAt st f m p) w' →
      Inv P C ops pr n st id h f vl ρ0 H0 w0 a0 (listed.setIfInBounds (id p) true) (a.put o.dst x) w' ρ' m := by
    intro hh hf x ρ' w' hx hH hS
    have hov := I.over W hmp (Nat.le_of_lt hp)
    obtain ⟨c1, c2⟩ := carry (M' := EAt st f m n) I.rel hH hS hov hov.get hov.next
    refine I.next W hp hF0 hX hpr ho hS.ext hx c1 (I.stp.trans c2) I.mn (fun q hq => .inl (I.low q hq)) ?_ ?_ I.names
    · intro q h1 h2 h3
      refine ⟨I.high q h1 h2 h3, ?_⟩
      intro e
      rw [e, hh] at h3
      cases h3
    · intro q nm ob hq hfq hl hne
      cases hnm : ρ' nm with
      | none => rfl
      | some K =>
        have h0 := I.tocome q nm ob hq hfq hl
        have h1 := hS.new nm K h0 hnm
        have hmq : m ≤ q := by
          rcases Nat.lt_or_ge q m with h | h
          · exact (hl (I.low q h)).elim
          · exact h
        have h2 := (I.names nm (W.name_mem hmq hq hfq)).1
        unfold EAt at h1
        rw [adds_next] at h1
        omega
  have hstep := W.step p hp
  generalize hs' : st (p + 1) = s' at hstep
  generalize hb' : h p = b' at hstep
  generalize hf' : f p = f' at hstep
  generalize hv' : vl p = v' at hstep
  unfold wpOpIn
  simp only [ho]
  cases hstep with
  | @skip o1 g ci _ _ A hw hh =>
    have e := A.op
    rw [ho] at e
    cases e
    obtain ⟨C', ns', _, E, hg, _⟩ := I.env W hF0 hp hX hpr hEM ho
    have hwant := wanted_ok (ops := ops) E.L (by rw [hg]; exact A.guard) hw
    rw [hwant]
    simp only [Bool.false_eq_true, if_false]
    refine ⟨fun _ _ => trivial, ?_⟩
    cases hb : h p with
    | true =>
      refine hK _ _ _ _ (heavyNext hb (by rw [hv']; exact RX.undef ρ) ?_ ?_)
      · rw [hs']; simp only; rw [← (hheavy hb).2.1]; exact hEM
      · rw [hs']; simp only; rw [(hheavy hb).2.1]; exact Step.refl ρ _ w
    | false =>
      exact hK _ _ _ _ (lightNext hb hf' (by rw [hv']; exact RX.undef ρ) hEM (Step.refl ρ _ w))
  | @heavy o1 g ci _ v H' A hcomp hw hh hev =>
    have e := A.op
    rw [ho] at e
    cases e
    obtain ⟨C', ns', hng, E, hg, hci⟩ := I.env W hF0 hp hX hpr hEM ho
    have hwant := wanted_ok (ops := ops) E.L (by rw [hg]; exact A.guard) hw
    rw [hwant]
    simp only [if_true]
    rw [(hheavy hb').2.1] at E
    refine op_wp (C := C') (by rw [hng]; exact hcall) (noY_ok _ _) E (by rw [hci]; exact hcomp) hev ?_ ?_
    · intro v1 e1 ρ' w' x hx hH hS
      cases e1
      refine hK _ _ _ _ (heavyNext hb' (by rw [hv']; exact hx) ?_ ?_)
      · rw [hs', ← hng]; exact hH
      · rw [hs', (hheavy hb').2.1]; exact hS
    · intro v1 e1; cases e1
  | @light o1 g ci _ v H1 A hcomp hw hl hev hbk =>
    have e := A.op
    rw [ho] at e
    cases e
    obtain ⟨C', ns', hng, E, hg, hci⟩ := I.env W hF0 hp hX hpr hEM ho
    have hwant := wanted_ok (ops := ops) E.L (by rw [hg]; exact A.guard) hw
    rw [hwant]
    simp only [if_true]
    have hevE : ∃ H2, ci.ev (st p).ls (st p).fr (EAt st f m p) = some (v', H2) := by
      obtain ⟨pre, k1, k2, k3⟩ := W.elder hmp (Nat.le_of_lt hp)
      rcases k3 with ⟨_, k4⟩ | ⟨c, k4, k5⟩
      · rw [k4]; exact ⟨_, hev⟩
      · refine backs_get hbk c _ ?_ k5
        have hge : pre.length ≤ backsOf (pr.getD (id p) []) (pre ++ (st m).hvs) := by
          refine backsOf_ge fun j hj hm => ?_
          obtain ⟨r, r1, r2, r3, r4⟩ := k2 j hj
          have := hpr j hm
          rw [← r4] at this
          exact I.high r r1 (by omega) r3 this
        rw [← k1] at hge
        omega
    obtain ⟨H2, hevE⟩ := hevE
    have hH2 := light_same hl hevE
    subst hH2
    have hnc : ci.isCall = false := by cases ci <;> first | rfl | cases hl
    obtain ⟨ρ', w', x, nx, r1, r2, r3, r4, r5⟩ := op_ok (o := o) E (by rw [hci]; exact hcomp) hnc hevE
    have done := hK _ _ _ _ (lightNext hb' hf' (by rw [hv']; exact r3) (by rw [← hng]; exact r4) r5)
    unfold Oper.wpIn
    refine ⟨fun _ _ => trivial, ?_⟩
    rw [Oper.semAt_eq _ _ _ (fun c h => by have hci' := hcomp; rw [h] at hci'; cases hci'), r1]
    rcases r2 with rfl | ⟨rfl, rfl⟩
    · exact done
    · exact done
  | @float o1 g ci _ v q R F ob A hcomp hw hf hR hev hF =>
    have e := A.op
    rw [ho] at e
    cases e
    obtain ⟨C', ns', hng, E, hg, hci⟩ := I.env W hF0 hp hX hpr hEM ho
    have hwant := wanted_ok (ops := ops) E.L (by rw [hg]; exact A.guard) hw
    rw [hwant]
    simp only [if_true]
    obtain ⟨vs, t, c, elem, x, k1, k2, k3, k4, k5⟩ := float_ok E (by rw [hci]; exact hcomp) hf hev
    rw [hF] at k2
    cases k2
    have hqn := I.names q (W.name_mem hmp hp hf')
    have hq0 := I.tocome p q _ hp hf' hX
    have hget : (EAt st f m n).get q = some (.cells t vs.len false) := by
      unfold EAt
      rw [adds_get, W.look_name hmp hp hf']
    have ad := I.rel.adopt (elem := elem) hget k1 k3 hq0 (by unfold EAt; rw [adds_next]; exact hqn.1)
    have as := I.stp.adopt (c := c) (elem := elem) (sz := c.size) hq0 hqn.2.2
    unfold Oper.wpIn
    refine ⟨fun _ _ => trivial, ?_⟩
    rw [Oper.semAt_eq _ _ _ (fun c h => by have hci' := hcomp; rw [h] at hci'; cases hci'), k4]
    show K (a.put o.dst x) _
    refine hK _ _ _ _ (I.next W hp hF0 hX hpr ho (Ren.put_ext hq0) (by rw [hv']; exact k5 _ c.size (by simp [Ren.put])) ad as I.mn (fun r hr => .inl (I.low r hr)) ?_ ?_ I.names)
    · intro r h1 h2 h3
      refine ⟨I.high r h1 h2 h3, ?_⟩
      intro e
      rw [e, hb'] at h3
      cases h3
    · intro r nm ob' hr hfr hl hne
      have : nm ≠ q := by
        intro e
        subst e
        exact hne (W.name_inj hr hp hfr hf')
      simp only [Ren.put, if_neg this]
      exact I.tocome r nm ob' hr hfr hl

/-- Where nothing is to be done any more, all was done. -/
theorem inv_end (W : Way P C ops pr call n st id h f vl) (hF0 : FRel C ρ0 (st 0).fr a0.tmps) (I : Inv P C ops pr n st id h f vl ρ0 H0 w0 a0 listed a w ρ m) (hr : Region.ready .any ops listed = []) :
    Post pl P C ρ0 H0 w0 a0.defers (dl (st 0).fr) (.normal, (st n).fr, (st n).H) .normal a w := by
  have all : ∀ k, ∀ p, p < k → p < n → Lst listed (id p) := by
    intro k
    induction k with
    | zero => intro p hp; omega
    | succ k ih =>
      intro p hpk hp
      by_cases e : Lst listed (id p)
      · exact e
      · exfalso
        obtain ⟨o, ho, hpl⟩ := (W.facts hp).op
        have hpl := placed_spec hpl
        have hlt : id p < listed.size := by rw [I.sz]; exact (Array.getElem?_eq_some_iff.1 ho).1
        have : id p ∈ Region.ready .any ops listed := by
          rw [mem_ready]
          refine ⟨lst_of_not hlt e, o, ho, ?_⟩
          intro ed hed hb
          obtain ⟨q, hq, e2⟩ := (W.mem (Nat.le_of_lt hp) _).1 (hpl.2.2.2.1 _ (hpl.2.1 ed hed hb))
          have := ih q (by omega) (by omega)
          rw [e2] at this
          exact this
        rw [hr] at this
        cases this
  have all : ∀ p, p < n → Lst listed (id p) := fun p hp => all n p hp hp
  have hq : EAt st f m n = (st n).H := W.quiet I.mn (Nat.le_refl n) fun r h1 h2 => by
    cases hh : h r with
    | false => rfl
    | true => exact (I.high r h1 h2 hh (all r h2)).elim
  refine ⟨ρ, ⟨by rw [I.tsz]; exact hF0.size, ?_⟩, by rw [← hq]; exact I.rel, by rw [← hq]; exact I.stp, (by rw [I.dfs, W.dlAt (Nat.le_refl n)]; exact Marks.refl _ _ _ _ _ _ _), trivial⟩
  intro t v ht hv
  rcases W.frAt (Nat.le_refl n) t v ht hv with ⟨q, h1, h2, h3⟩ | ⟨h1, h2⟩
  · obtain ⟨x, hx, hr⟩ := I.vals q h1 (all q h1) t h2
    exact ⟨x, hx, by rw [h3]; exact hr⟩
  · obtain ⟨x, hx, hr⟩ := hF0.far t v ht h2
    exact ⟨x, by rw [I.rest t fun q hq _ => h1 q hq]; exact hx, hr.mono I.stp.ext⟩

def unlisted (ops : Array Oper) (listed : Array Bool) : Nat := (List.range ops.size).countP fun i => !listed.getD i true

theorem unlisted_set {i : Nat} (hi : i ∈ Region.ready .any ops listed) : unlisted ops (listed.setIfInBounds i true) < unlisted ops listed := by
  obtain ⟨hun, o, ho, _⟩ := mem_ready.1 hi
  have hlt : i < ops.size := (Array.getElem?_eq_some_iff.1 ho).1
  have hl := (lst_not hun).2
  unfold unlisted
  have key : ∀ l : List Nat, (l.countP fun j => !(listed.setIfInBounds i true).getD j true) ≤ (l.countP fun j => !listed.getD j true) ∧
      (i ∈ l → (l.countP fun j => !(listed.setIfInBounds i true).getD j true) < (l.countP fun j => !listed.getD j true)) := by
    intro l
    induction l with
    | nil => exact ⟨Nat.le_refl _, fun h => by cases h⟩
    | cons j l ih =>
      rw [List.countP_cons, List.countP_cons]
      by_cases e : i = j
      · subst e
        have h1 : (!(listed.setIfInBounds i true).getD i true) = false := by simp [hl]
        have h2 : (!listed.getD i true) = true := by rw [hun]; rfl
        rw [h1, h2]
        simp only [Bool.false_eq_true, if_false, if_true]
        have := ih.1
        constructor
        · omega
        · intro _; omega
      · rw [getD_set_ne true e]
        constructor
        · have := ih.1; omega
        · intro hm
          have hm' : i ∈ l := by
            rcases List.mem_cons.1 hm with h | h
            · exact (e h).elim
            · exact h
          have := ih.2 hm'
          omega
  exact (key _).2 (List.mem_range.2 hlt)

theorem inv_all {ro : Option Nat} (hcall : CallOk P C.ng call) (W : Way P C ops pr call n st id h f vl) (hF0 : FRel C ρ0 (st 0).fr a0.tmps) {Q : Exit → Act → World → Prop}
    (hQ : ∀ e a' w', Post pl P C ρ0 H0 w0 a0.defers (dl (st 0).fr) (.normal, (st n).fr, (st n).H) e a' w' → Q e a' w') :
    ∀ (fuel : Nat) (listed : Array Bool) (a : Act) (w : World) (ρ : Ren) (m : Nat), unlisted ops listed ≤ fuel → Inv P C ops pr n st id h f vl ρ0 H0 w0 a0 listed a w ρ m → wpAnyIn (fz ro) 0 P .any ops Q fuel listed a w := by
  intro fuel
  induction fuel with
  | zero =>
    intro listed a w ρ m hu I
    have hr : Region.ready .any ops listed = [] := by
      cases hh : Region.ready .any ops listed with
      | nil => rfl
      | cons i l =>
        have := unlisted_set (ops := ops) (listed := listed) (i := i) (by rw [hh]; simp)
        omega
    exact ⟨hr, hQ _ _ _ (inv_end W hF0 I hr)⟩
  | succ fuel ih =>
    intro listed a w ρ m hu I
    refine ⟨fun hr => hQ _ _ _ (inv_end W hF0 I hr), fun i hi => ?_⟩
    refine inv_step hcall W hF0 I hi ?_
    intro a' w' ρ' m' I'
    have := unlisted_set hi
    exact ih _ a' w' ρ' m' (by omega) I'

theorem Way.floatCells (W : Way P C ops pr call n st id h f vl) {p : Nat} (hp : p < n) {q : Pos} {o : AO} (hf : f p = some (q, o)) : ∃ t m op, o = .cells t m op := by
  have hs := W.step p hp
  rw [hf] at hs
  generalize id p = i at hs
  generalize h p = b at hs
  generalize vl p = v at hs
  generalize st p = s at hs
  generalize st (p + 1) = s' at hs
  cases hs with
  | float A hcomp hw hfl hR hev hF => exact float_obj hfl hev hF

/-! The names that are kept. -/
theorem reserve_spec : ∀ (k : Nat) (H : Heap), (reserve k H).2.t = H.t ∧ H.next.num ≤ (reserve k H).2.next.num ∧ (∀ q ∈ (reserve k H).1, H.next.num ≤ q.num ∧ q.num < (reserve k H).2.next.num) ∧ (reserve k H).1.Nodup := by
  intro k
  induction k with
  | zero => intro H; exact ⟨rfl, Nat.le_refl _, fun q hq => (by cases hq), List.nodup_nil⟩
  | succ k ih =>
    intro H
    obtain ⟨h1, h2, h3, h4⟩ := ih ⟨H.next.succ, H.t⟩
    simp only [reserve]
    simp only [Pos.num_succ] at h2 h3
    refine ⟨h1, by omega, ?_, ?_⟩
    · intro q hq
      rcases List.mem_cons.1 hq with rfl | hq
      · exact ⟨Nat.le_refl _, by omega⟩
      · have := h3 q hq; omega
    · refine List.nodup_cons.2 ⟨fun hm => ?_, h4⟩
      have := (h3 _ hm).1
      omega

theorem draw_ok {ro : Option Nat} (hcall : CallOk P C.ng call) {σ : List Nat} {ds : DIs} {nf : Nat} {fr fr' : Tr AV} {H H' : Heap} (hc : opsD P C ops pr σ [] [] = some ds) (hF : FRel C ρ fr a.tmps) (hH : HRel P C.ng ρ H w)
    (hrun : ds.run call (reserve nf H).1 [] .nil fr (reserve nf H).2 = some (fr', H')) (Q : Exit → Act → World → Prop) (hQ : ∀ e a' w', Post pl P C ρ H w a.defers (dl fr) (.normal, fr', H') e a' w' → Q e a' w') :
    wpAnyIn (fz ro) 0 P .any ops Q ops.size (Array.replicate ops.size false) a { w with drawn := w.drawn + 1 } := by
  obtain ⟨st, id, h, f, vl, e0, e1, e2, e3, e4⟩ := trace σ ⟨[], [], (reserve nf H).1, [], .nil, fr, (reserve nf H).2⟩ ds fr' H' hc hrun
  obtain ⟨r1, r2, r3, r4⟩ := reserve_spec nf H
  have W : Way P C ops pr call σ.length st id h f vl := ⟨e1, by rw [e0], by rw [e0], by rw [e0], by rw [e0], by rw [e0]; exact r4, e4⟩
  rw [← e2, ← e3] at hQ
  have hF0 : FRel C ρ (st 0).fr a.tmps := by rw [e0]; exact hF
  refine inv_all (ρ0 := ρ) (H0 := H) (w0 := w) (a0 := a) hcall W hF0 (by rw [e0]; exact hQ) ops.size _ a _ ρ 0 ?_ ?_
  · unfold unlisted
    have := List.countP_le_length (p := fun i => !(Array.replicate ops.size false).getD i true) (l := List.range ops.size)
    simpa using this
  · have hno : ∀ j, ¬Lst (Array.replicate ops.size false) j := by
      intro j
      unfold Lst
      by_cases e : j < ops.size <;> simp [e]
    have hget : ∀ q, (∃ o, look f q 0 (σ.length - 0) = some o ∧ H.next.num ≤ q.num ∧ q.num < (reserve nf H).2.next.num) ∨ (EAt st f 0 σ.length).get q = H.get q := by
      intro q
      unfold EAt
      rw [adds_get]
      cases hl : look f q 0 (σ.length - 0) with
      | none =>
        right
        simp only
        rw [e0]
        show (reserve nf H).2.t.get q = H.t.get q
        rw [r1]
      | some o =>
        left
        obtain ⟨r, k1, k2, k3⟩ := look_some f q _ _ _ hl
        have hm := W.name_mem (m := 0) (Nat.zero_le r) (by omega) k3
        rw [e0] at hm
        obtain ⟨n1, n2⟩ := r3 q hm
        exact ⟨o, rfl, n1, n2⟩
    have hnext : (EAt st f 0 σ.length).next = (reserve nf H).2.next := by unfold EAt; rw [adds_next, e0]
    have hold : ∀ q, q.num < H.next.num → (EAt st f 0 σ.length).get q = H.get q := by
      intro q hq
      rcases hget q with ⟨o, _, k1, _⟩ | k
      · omega
      · exact k
    have hmap : ∀ q K, ρ q = some K → q.num < H.next.num := by
      intro q K hq
      rcases Nat.lt_or_ge q.num H.next.num with hh | hh
      · exact hh
      · rw [hH.fresh q hh] at hq; cases hq
    refine ⟨by simp, Nat.zero_le _, fun p hp => by omega, fun p _ _ _ => hno _, fun j hj => (hno j hj).elim, ?_, ?_, fun p _ hl => (hno _ hl).elim, fun t _ => rfl, rfl, rfl, ?_, ?_⟩
    · refine ⟨?_, ?_, hH.bound, ?_, hH.globals, ?_, ?_⟩
      · intro q o K hq hd hK
        rw [hold q (hmap q K hK)] at hq
        exact (hH.objs q o K hq hd hK).same rfl
      · intro q r K N hq hr hK hN hb
        rw [live_congr (hold q (hmap q K hK))] at hq
        rw [live_congr (hold r (hmap r N hN))] at hr
        exact hH.inj q r K N hq hr hK hN hb
      · intro q hq
        rw [hnext] at hq
        exact hH.fresh q (by omega)
      · intro q hq
        rw [hnext] at hq
        rcases hget q with ⟨o, _, k1, k2⟩ | k
        · omega
        · rw [live_congr k]; exact hH.wf q (by omega)
      · intro q o hq
        cases hl : look f q 0 (σ.length - 0) with
        | none =>
          have : (EAt st f 0 σ.length).get q = H.get q := by
            unfold EAt
            rw [adds_get, hl]
            simp only
            rw [e0]
            show (reserve nf H).2.t.get q = H.t.get q
            rw [r1]
          rw [this] at hq
          exact hH.loops q o hq
        | some o' =>
          have : (EAt st f 0 σ.length).get q = some o' := by
            unfold EAt
            rw [adds_get, hl]
          rw [this] at hq
          cases hq
          obtain ⟨r, k1, k2, k3⟩ := look_some f q _ _ _ hl
          obtain ⟨t, m, op, rfl⟩ := W.floatCells (by omega) k3
          trivial
    · refine ⟨Ext.refl ρ, rfl, rfl, rfl, Nat.le_refl _, fun _ _ _ => rfl, ?_, by rw [hnext]; exact r2, fun q K h1 h2 => (by rw [h1] at h2; cases h2), ?_, ?_⟩
      · intro q K hq hK
        rw [live_congr (hold q (hmap q K hK))] at hq
        exact .inr ⟨q, K, hq, hK, rfl⟩
      · intro q hq hl
        rw [live_congr (hold q hq)]
        exact hl
      · intro q hq t hg
        exact ⟨by rw [hold q hq]; exact hg, fun _ _ _ => rfl⟩
    · intro p q o hp hf _
      have hm := W.name_mem (m := 0) (Nat.zero_le p) hp hf
      rw [e0] at hm
      exact hH.fresh q (r3 q hm).1
    · intro q hq
      rw [e0] at hq ⊢
      obtain ⟨k1, k2⟩ := r3 q hq
      refine ⟨k2, ?_, k1⟩
      have : (reserve nf H).2.get q = H.get q := by show (reserve nf H).2.t.get q = H.t.get q; rw [r1]
      rw [live_congr this]
      exact hH.wf q k1

end
end Go.Dx
