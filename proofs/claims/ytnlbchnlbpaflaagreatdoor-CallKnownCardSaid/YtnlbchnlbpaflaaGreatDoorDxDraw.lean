/-
  Regions that draw: whatever the order, it comes to the same.
-/
import Derived.Test.YtnlbchnlbpaflaaGreatDoorDxTrace
set_option linter.unusedSimpArgs false
set_option linter.unusedVariables false
set_option linter.unusedSectionVars false
namespace Go.Dx

/-- A state of the run along the region's one order. -/
structure DS where
  done : List Nat
  hvs : List Nat
  R : List Pos
  Hs : List Heap
  ls : AV
  fr : Tr AV
  H : Heap

structure AtD (P : Program) (C : Ctx) (ops : Array Oper) (pr : List (List Nat)) (i : Nat) (o : Oper) (g : Option (Nat × Bool)) (ci : CI) (s : DS) : Prop where
  op : ops[i]? = some o
  dst : dstOk C (namesOf ops s.done) o.dst = true
  placed : placed ops pr i o s.done = true
  guard : guardP ops (namesOf ops s.done) o.guard = some g

inductive StepD (P : Program) (C : Ctx) (ops : Array Oper) (pr : List (List Nat)) (call : Nat → AV → Heap → Option (CR × Heap)) (i : Nat) : Bool → Option (Pos × AO) → AV → DS → DS → Prop where
  | skip {o : Oper} {g : Option (Nat × Bool)} {ci : CI} {s : DS} {h : Bool} (A : AtD P C ops pr i o g ci s) (hw : wanted s.ls g = some false) (hh : h = true → s.done.all (pr.getD i []).contains = true) :
      StepD P C ops pr call i h none undefA s ⟨i :: s.done, if h then i :: s.hvs else s.hvs, s.R, if h then s.H :: s.Hs else s.Hs, .cons undefA s.ls, setDst s.fr (farDst C o.dst) undefA, s.H⟩
  | heavy {o : Oper} {g : Option (Nat × Bool)} {ci : CI} {s : DS} {v : AV} {H' : Heap} (A : AtD P C ops pr i o g ci s) (hc : opP P C (namesOf ops s.done) o.op = some ci) (hw : wanted s.ls g = some true) (hh : s.done.all (pr.getD i []).contains = true) (hev : CI.run call noY s.ls s.fr s.H ci = some (.ret v, H')) :
      StepD P C ops pr call i true none v s ⟨i :: s.done, i :: s.hvs, s.R, s.H :: s.Hs, .cons v s.ls, setDst s.fr (farDst C o.dst) v, H'⟩
  | light {o : Oper} {g : Option (Nat × Bool)} {ci : CI} {s : DS} {v : AV} {H1 : Heap} (A : AtD P C ops pr i o g ci s) (hc : opP P C (namesOf ops s.done) o.op = some ci) (hw : wanted s.ls g = some true) (hl : ci.light = true) (hev : ci.ev s.ls s.fr s.H = some (v, H1))
      (hb : backs ci s.ls s.fr v (backsOf (pr.getD i []) s.hvs) s.Hs = true) :
      StepD P C ops pr call i false none v s ⟨i :: s.done, s.hvs, s.R, s.Hs, .cons v s.ls, setDst s.fr (farDst C o.dst) v, s.H⟩
  | float {o : Oper} {g : Option (Nat × Bool)} {ci : CI} {s : DS} {v : AV} {p : Pos} {R : List Pos} {F : Heap} {ob : AO} (A : AtD P C ops pr i o g ci s) (hc : opP P C (namesOf ops s.done) o.op = some ci) (hw : wanted s.ls g = some true) (hf : ci.float = true) (hR : s.R = p :: R)
      (hev : ci.ev s.ls s.fr ⟨p, .leaf⟩ = some (v, F)) (hF : F.get p = some ob) :
      StepD P C ops pr call i false (some (p, ob)) v s ⟨i :: s.done, s.hvs, R, putAll p ob s.Hs, .cons v s.ls, setDst s.fr (farDst C o.dst) v, s.H.put p ob⟩

section
variable {P : Program} {C : Ctx} {ops : Array Oper} {pr : List (List Nat)} {call : Nat → AV → Heap → Option (CR × Heap)}

theorem trace : ∀ (σ : List Nat) (s : DS) (ds : DIs) (fr' : Tr AV) (H' : Heap), opsD P C ops pr σ s.done s.hvs = some ds → ds.run call s.R s.Hs s.ls s.fr s.H = some (fr', H') →
    ∃ (st : Nat → DS) (id : Nat → Nat) (h : Nat → Bool) (f : Nat → Option (Pos × AO)) (vl : Nat → AV), st 0 = s ∧ (∀ p, p < σ.length → StepD P C ops pr call (id p) (h p) (f p) (vl p) (st p) (st (p + 1))) ∧
      (st σ.length).fr = fr' ∧ (st σ.length).H = H' ∧ (List.range ops.size).all (st σ.length).done.contains = true := by
  intro σ
  induction σ with
  | nil =>
    intro s ds fr' H' hc hr
    simp only [opsD] at hc
    split at hc
    · rename_i hall
      cases hc
      simp only [DIs.run] at hr
      cases hr
      exact ⟨fun _ => s, fun _ => 0, fun _ => false, fun _ => none, fun _ => undefA, rfl, fun p hp => absurd hp (by simp), rfl, rfl, hall⟩
    · cases hc
  | cons i σ ih =>
    intro s ds fr' H' hc hr
    have cont : ∀ (h : Bool) (f : Option (Pos × AO)) (v : AV) (s1 : DS) (ds1 : DIs), StepD P C ops pr call i h f v s s1 → opsD P C ops pr σ s1.done s1.hvs = some ds1 → ds1.run call s1.R s1.Hs s1.ls s1.fr s1.H = some (fr', H') →
        ∃ (st : Nat → DS) (id : Nat → Nat) (h : Nat → Bool) (f : Nat → Option (Pos × AO)) (vl : Nat → AV), st 0 = s ∧ (∀ p, p < (i :: σ).length → StepD P C ops pr call (id p) (h p) (f p) (vl p) (st p) (st (p + 1))) ∧
          (st (i :: σ).length).fr = fr' ∧ (st (i :: σ).length).H = H' ∧ (List.range ops.size).all (st (i :: σ).length).done.contains = true := by
      intro h f v s1 ds1 hs hc1 hr1
      obtain ⟨st, id, hh, ff, vl, e0, e1, e2, e3, e4⟩ := ih s1 ds1 fr' H' hc1 hr1
      refine ⟨fun | 0 => s | p + 1 => st p, fun | 0 => i | p + 1 => id p, fun | 0 => h | p + 1 => hh p, fun | 0 => f | p + 1 => ff p, fun | 0 => v | p + 1 => vl p, rfl, ?_, e2, e3, e4⟩
      intro p hp
      cases p with
      | zero => simp only [e0]; exact hs
      | succ p => exact e1 p (by simpa using hp)
    simp only [opsD] at hc
    split at hc
    · cases hc
    · rename_i o ho
      split at hc
      · cases hc
      · rename_i hd
        simp only [Bool.not_eq_true', Bool.not_eq_false] at hd
        split at hc
        · cases hc
        · rename_i hpl
          simp only [Bool.not_eq_true', Bool.not_eq_false] at hpl
          split at hc
          · rename_i g ci hg hci
            have A : AtD P C ops pr i o g ci s := ⟨ho, hd, hpl, hg⟩
            split at hc
            · rename_i hl
              obtain ⟨ds1, hds1, rfl⟩ := Option.map_eq_some_iff.1 hc
              simp only [DIs.run] at hr
              split at hr
              · cases hr
              · rename_i hw
                exact cont false none undefA _ ds1 (.skip (h := false) A hw (fun h => by cases h)) hds1 hr
              · rename_i hw
                split at hr
                · rename_i v H1 hev
                  split at hr
                  · rename_i hb
                    exact cont false none v _ ds1 (.light A hci hw hl hev hb) hds1 hr
                  · cases hr
                · cases hr
            · split at hc
              · rename_i hf
                obtain ⟨ds1, hds1, rfl⟩ := Option.map_eq_some_iff.1 hc
                simp only [DIs.run] at hr
                split at hr
                · cases hr
                · rename_i hw
                  exact cont false none undefA _ ds1 (.skip (h := false) A hw (fun h => by cases h)) hds1 hr
                · rename_i hw
                  split at hr
                  · cases hr
                  · rename_i p R hR
                    split at hr
                    · rename_i v F hev
                      split at hr
                      · rename_i ob hF
                        exact cont false (some (p, ob)) v _ ds1 (.float A hci hw hf hR hev hF) hds1 hr
                      · cases hr
                    · cases hr
              · split at hc
                · rename_i hh
                  obtain ⟨ds1, hds1, rfl⟩ := Option.map_eq_some_iff.1 hc
                  simp only [DIs.run] at hr
                  split at hr
                  · cases hr
                  · rename_i hw
                    exact cont true none undefA _ ds1 (.skip (h := true) A hw (fun _ => hh)) hds1 hr
                  · rename_i hw
                    split at hr
                    · rename_i v H1 hev
                      exact cont true none v _ ds1 (.heavy A hci hw hh hev) hds1 hr
                    · cases hr
                · cases hc
          · -- what is not taken
            rename_i g hg hci
            have A : AtD P C ops pr i o g stuckCI s := ⟨ho, hd, hpl, hg⟩
            obtain ⟨ds1, hds1, rfl⟩ := Option.map_eq_some_iff.1 hc
            simp only [DIs.run] at hr
            split at hr
            · cases hr
            · rename_i hw
              exact cont false none undefA _ ds1 (.skip (h := false) A hw (fun h => by cases h)) hds1 hr
            · have : CI.ev s.ls s.fr s.H stuckCI = none := rfl
              rw [this] at hr
              cases hr
          · cases hc

/-! What is added to a state of memory. -/
def addF (H : Heap) : Option (Pos × AO) → Heap
  | none => H
  | some (p, o) => H.put p o

def adds (f : Nat → Option (Pos × AO)) : Nat → Nat → Heap → Heap
  | _, 0, H => H
  | m, k + 1, H => adds f (m + 1) k (addF H (f m))

def look (f : Nat → Option (Pos × AO)) (q : Pos) : Nat → Nat → Option AO
  | _, 0 => none
  | m, k + 1 =>
    match look f q (m + 1) k with
    | some o => some o
    | none => match f m with
      | some (p, o) => if q = p then some o else none
      | none => none

theorem put_get (H : Heap) (p q : Pos) (o : AO) : (H.put p o).get q = if q = p then some o else H.get q := by simp [Heap.put, Heap.get, Tr.get_set]

theorem adds_get (f : Nat → Option (Pos × AO)) (q : Pos) : ∀ (k m : Nat) (H : Heap), (adds f m k H).get q = match look f q m k with | some o => some o | none => H.get q := by
  intro k
  induction k with
  | zero => intro m H; rfl
  | succ k ih =>
    intro m H
    simp only [adds, look]
    rw [ih]
    cases look f q (m + 1) k with
    | some o => rfl
    | none =>
      simp only
      cases hf : f m with
      | none => rfl
      | some po =>
        obtain ⟨p, o⟩ := po
        simp only [addF, put_get]
        split <;> rfl

theorem adds_next (f : Nat → Option (Pos × AO)) : ∀ (k m : Nat) (H : Heap), (adds f m k H).next = H.next := by
  intro k
  induction k with
  | zero => intro m H; rfl
  | succ k ih =>
    intro m H
    simp only [adds]
    rw [ih]
    cases f m with
    | none => rfl
    | some po => rfl

theorem adds_add (f : Nat → Option (Pos × AO)) : ∀ (k m l : Nat) (H : Heap), adds f m (k + l) H = adds f (m + k) l (adds f m k H) := by
  intro k
  induction k with
  | zero => intro m l H; simp [adds]
  | succ k ih =>
    intro m l H
    rw [show k + 1 + l = (k + l) + 1 by omega]
    simp only [adds]
    rw [ih]
    congr 1
    omega

theorem look_some (f : Nat → Option (Pos × AO)) (q : Pos) : ∀ (k m : Nat) (o : AO), look f q m k = some o → ∃ r, m ≤ r ∧ r < m + k ∧ f r = some (q, o) := by
  intro k
  induction k with
  | zero => intro m o h; cases h
  | succ k ih =>
    intro m o h
    simp only [look] at h
    split at h
    · rename_i o' ho
      cases h
      obtain ⟨r, h1, h2, h3⟩ := ih _ _ ho
      exact ⟨r, by omega, by omega, h3⟩
    · split at h
      · rename_i p o' hf
        split at h
        · rename_i e
          cases h
          subst e
          exact ⟨m, Nat.le_refl _, by omega, hf⟩
        · cases h
      · cases h

theorem look_ne (f : Nat → Option (Pos × AO)) (q : Pos) : ∀ (k m r : Nat) (o : AO), m ≤ r → r < m + k → f r = some (q, o) → look f q m k ≠ none := by
  intro k
  induction k with
  | zero => intro m r o h1 h2; omega
  | succ k ih =>
    intro m r o h1 h2 h3 h
    simp only [look] at h
    split at h
    · cases h
    · rename_i hn
      by_cases e : m = r
      · subst e
        rw [h3] at h
        simp at h
      · exact ih (m + 1) r o (by omega) (by omega) h3 hn

/-! Memory to which objects were added. -/
structure Over (E : Heap) (L : Pos → Option AO) (M : Heap) : Prop where
  get : ∀ q, M.get q = match L q with | some o => some o | none => E.get q
  next : M.next = E.next
  free : ∀ q o, L q = some o → E.live q = false ∧ q.num < E.next.num

variable {ng : Nat} {ρ ρ' : Ren} {E E' M M' : Heap} {L : Pos → Option AO} {w w' : World}

theorem Over.live_of (h : Over E L M) {q : Pos} (hq : E.live q = true) : L q = none ∧ M.get q = E.get q ∧ M.live q = true := by
  have hn : L q = none := by
    cases hL : L q with
    | none => rfl
    | some o => rw [(h.free q o hL).1] at hq; cases hq
  have hg : M.get q = E.get q := by rw [h.get, hn]
  exact ⟨hn, hg, by rw [live_congr hg]; exact hq⟩

theorem HRel.sub (h : HRel P ng ρ M w) (ho : Over E L M) : HRel P ng ρ E w where
  objs := fun p o K hp hd hK => by
    obtain ⟨_, hg, _⟩ := ho.live_of (live_of_get hp hd)
    exact h.objs p o K (by rw [hg]; exact hp) hd hK
  inj := fun p q K N hp hq hK hN hb => h.inj p q K N (ho.live_of hp).2.2 (ho.live_of hq).2.2 hK hN hb
  bound := h.bound
  fresh := fun p hp => h.fresh p (by rw [ho.next]; exact hp)
  globals := h.globals
  wf := fun p hp => by
    cases hl : E.live p with
    | false => rfl
    | true =>
      have h1 := (ho.live_of hl).2.2
      rw [h.wf p (by rw [ho.next]; exact hp)] at h1
      cases h1
  loops := fun p o hp => by
    cases hL : L p with
    | none => exact h.loops p o (by rw [ho.get, hL]; exact hp)
    | some o' =>
      have hl := (ho.free p o' hL).1
      cases o with
      | dead => trivial
      | _ => rw [live_of_get hp (by simp)] at hl; cases hl

theorem carry (hM : HRel P ng ρ M w) (hE : HRel P ng ρ' E' w') (hS : Step ρ E w ρ' E' w') (ho : Over E L M) (g2 : ∀ q, M'.get q = match L q with | some o => some o | none => E'.get q) (n2 : M'.next = E'.next) :
    HRel P ng ρ' M' w' ∧ Step ρ M w ρ' M' w' := by
  have dead' : ∀ q o, L q = some o → E'.live q = false := fun q o h => hS.old q (ho.free q o h).2 (ho.free q o h).1
  have same : ∀ q o K, L q = some o → ρ' q = some K → ρ q = some K := by
    intro q o K h hK
    cases hq : ρ q with
    | some N => rw [hS.ext q N hq] at hK; exact hK
    | none => have := hS.new q K hq hK; have := (ho.free q o h).2; omega
  have kept : ∀ q o K, L q = some o → o ≠ .dead → ρ q = some K → ∀ r N, E.live r = true → ρ r = some N → N.b ≠ K.b := by
    intro q o K h hd hK r N hr hN e
    have hl : M.live q = true := live_of_get (o := o) (by rw [ho.get, h]) hd
    have := hM.inj r q N K (ho.live_of hr).2.2 hl hN hK e
    subst this
    rw [(ho.free r o h).1] at hr
    cases hr
  have key : ∀ q, M'.live q = true → (∃ o, L q = some o ∧ o ≠ .dead ∧ M'.get q = some o ∧ M.get q = some o) ∨ (L q = none ∧ E'.live q = true ∧ M'.get q = E'.get q) := by
    intro q hq
    have hg := g2 q
    cases hL : L q with
    | some o =>
      rw [hL] at hg
      left
      refine ⟨o, rfl, ?_, hg, by rw [ho.get, hL]⟩
      intro e
      subst e
      unfold Heap.live at hq
      rw [hg] at hq
      cases hq
    | none =>
      rw [hL] at hg
      exact .inr ⟨rfl, by rw [← live_congr hg]; exact hq, hg⟩
  constructor
  · refine ⟨?_, ?_, hE.bound, fun p hp => hE.fresh p (by rw [← n2]; exact hp), hE.globals, ?_, fun q o hq => by
      have hg := g2 q
      rw [hq] at hg
      cases hL : L q with
      | some o' => rw [hL] at hg; cases hg; exact hM.loops q o (by rw [ho.get, hL])
      | none => rw [hL] at hg; exact hE.loops q o hg.symm⟩
    · intro q o K hq hd hK
      rcases key q (live_of_get hq hd) with ⟨o', h1, h2, h3, h4⟩ | ⟨h1, h2, h3⟩
      · rw [hq] at h3
        cases h3
        have hρ := same q o K h1 hK
        exact ((hM.objs q o K h4 h2 hρ).mono hS.ext).same (hS.frame K.b (hM.bound q K hρ) (kept q o K h1 h2 hρ))
      · exact hE.objs q o K (by rw [← h3]; exact hq) hd hK
    · intro q r K N hq hr hK hN hb
      have mix : ∀ q r K N o, L q = some o → o ≠ .dead → ρ' q = some K → M.get q = some o → E'.live r = true → ρ' r = some N → K.b = N.b → False := by
        intro q r K N o h1 h2 hK h4 hr hN hb
        have hρ := same q o K h1 hK
        rcases hS.own r N hr hN with hge | ⟨s, Z, hs, hZ, e⟩
        · have := hM.bound q K hρ; omega
        · exact kept q o K h1 h2 hρ s Z hs hZ (by rw [e, hb])
      rcases key q hq with ⟨o, h1, h2, h3, h4⟩ | ⟨h1, h2, h3⟩ <;> rcases key r hr with ⟨o', k1, k2, k3, k4⟩ | ⟨k1, k2, k3⟩
      · exact hM.inj q r K N (live_of_get h4 h2) (live_of_get k4 k2) (same q o K h1 hK) (same r o' N k1 hN) hb
      · exact (mix q r K N o h1 h2 hK h4 k2 hN hb).elim
      · exact (mix r q N K o' k1 k2 hN k4 h2 hK hb.symm).elim
      · exact hE.inj q r K N h2 k2 hK hN hb
    · intro q hq
      cases hl : M'.live q with
      | false => rfl
      | true =>
        rcases key q hl with ⟨o, h1, h2, h3, h4⟩ | ⟨h1, h2, h3⟩
        · have := (ho.free q o h1).2
          have := hS.next
          rw [n2] at hq
          omega
        · rw [hE.wf q (by rw [← n2]; exact hq)] at h2; cases h2
  · refine ⟨hS.ext, hS.os, hS.tape, hS.output, hS.size, ?_, ?_, by rw [ho.next, n2]; exact hS.next, fun p K h1 h2 => by rw [ho.next]; exact hS.new p K h1 h2, ?_, ?_⟩
    · intro b hb hn
      exact hS.frame b hb fun p K hp hK => hn p K (ho.live_of hp).2.2 hK
    · intro q K hq hK
      rcases key q hq with ⟨o, h1, h2, h3, h4⟩ | ⟨h1, h2, h3⟩
      · exact .inr ⟨q, K, live_of_get h4 h2, same q o K h1 hK, rfl⟩
      · rcases hS.own q K h2 hK with hge | ⟨s, Z, hs, hZ, e⟩
        · exact .inl hge
        · exact .inr ⟨s, Z, (ho.live_of hs).2.2, hZ, e⟩
    · intro q hq hl
      cases hl' : M'.live q with
      | false => rfl
      | true =>
        rcases key q hl' with ⟨o, h1, h2, h3, h4⟩ | ⟨h1, h2, h3⟩
        · rw [live_of_get h4 h2] at hl; cases hl
        · have hE0 : E.live q = false := by rw [← live_congr (H := E) (H' := M) (by rw [ho.get, h1])]; exact hl
          rw [hS.old q (by rw [← ho.next]; exact hq) hE0] at h2
          cases h2
    · intro q hq t hg
      have g1 := ho.get q
      have g3 := g2 q
      cases hL : L q with
      | some o =>
        rw [hL] at g1 g3
        refine ⟨by rw [g3, ← g1]; exact hg, fun K hK _ => ?_⟩
        rw [g1] at hg
        cases hg
        exact hS.frame K.b (hM.bound q K hK) (kept q _ K hL (by simp) hK)
      | none =>
        rw [hL] at g1 g3
        rw [g1] at hg
        obtain ⟨k1, k2⟩ := hS.keep q (by rw [← ho.next]; exact hq) t hg
        exact ⟨by rw [g3]; exact k1, k2⟩

/-- An object that was to come is there. -/
theorem HRel.adopt (h : HRel P ng ρ M w) {q : Pos} {vs : AV} {t : Tr AV} {c : Array Value} {elem : TypeId} (hg : M.get q = some (.cells t vs.len false)) (ht : treeOf vs = some t) (hr : RX ρ vs c.toList) (hq : ρ q = none) (hn : q.num < M.next.num) :
    HRel P ng (ρ.put q ⟨w.heap.size, 0, c.size⟩) M (pushed w (.cells c elem)) := by
  have hext := Ren.put_ext (L := ⟨w.heap.size, 0, c.size⟩) hq
  have hold : ∀ b, b < w.heap.size → (pushed w (.cells c elem)).heap[b]? = w.heap[b]? := fun b hb => by
    show (w.heap.push _)[b]? = _
    rw [Array.getElem?_push, if_neg (by omega)]
  refine ⟨?_, ?_, ?_, ?_, ?_, h.wf, h.loops⟩
  · intro p o K hp hd hK
    by_cases e : p = q
    · subst e
      simp [Ren.put] at hK
      subst hK
      rw [hg] at hp
      cases hp
      unfold treeOf at ht
      obtain ⟨hl, hg1, hg2⟩ := putCells_get _ _ _ _ ht
      have hlen := hr.len hl
      refine ⟨c, elem, (0, 0), by show (w.heap.push _)[w.heap.size]? = _; simp, rfl, by show 0 + vs.len ≤ c.size; rw [hlen]; simp, fun _ => ⟨rfl, by rw [hlen]; simp, fun i => by simp⟩, ?_, fun i _ => by simp⟩
      intro i v hv
      by_cases hi : i < vs.len
      · obtain ⟨u, hu⟩ := nth_of_lt (j := i) hl hi
        obtain ⟨hu1, hu2⟩ := hg1 _ _ hu
        rw [Nat.zero_add] at hu1
        rw [hu1] at hv; cases hv
        obtain ⟨x, hx', hR⟩ := hr.nth hu
        exact ⟨hi, x, by show c[0 + i]? = _; rw [Nat.zero_add]; simpa using hx', hR.mono hext, hu2⟩
      · rw [hg2 i (by omega), Tr.get_leaf] at hv
        cases hv
    · simp [Ren.put, e] at hK
      exact ((h.objs p o K hp hd hK).mono hext).same (hold _ (h.bound _ _ hK))
  · intro p r K N hp hr' hK hN hb
    by_cases e1 : p = q <;> by_cases e2 : r = q
    · rw [e1, e2]
    · simp [Ren.put, e1] at hK
      simp [Ren.put, e2] at hN
      have := h.bound _ _ hN
      rw [← hK] at hb
      simp at hb
      omega
    · simp [Ren.put, e2] at hN
      simp [Ren.put, e1] at hK
      have := h.bound _ _ hK
      rw [← hN] at hb
      simp at hb
      omega
    · simp [Ren.put, e1] at hK
      simp [Ren.put, e2] at hN
      exact h.inj p r K N hp hr' hK hN hb
  · intro p K hK
    show K.b < (w.heap.push _).size
    rw [Array.size_push]
    unfold Ren.put at hK
    split at hK
    · cases hK; simp
    · have := h.bound p K hK; omega
  · intro p hp
    have : p ≠ q := fun e => by rw [e] at hp; omega
    simp only [Ren.put, if_neg this]
    exact h.fresh p hp
  · intro g hgg
    obtain ⟨s, hs⟩ := h.globals g hgg
    exact ⟨s, hext _ _ hs⟩

theorem Step.adopt {ρ0 : Ren} {H0 : Heap} {w0 : World} (h : Step ρ0 H0 w0 ρ M w) {q : Pos} {c : Array Value} {elem : TypeId} {sz : Nat} (hq : ρ q = none) (hn : H0.next.num ≤ q.num) :
    Step ρ0 H0 w0 (ρ.put q ⟨w.heap.size, 0, sz⟩) M (pushed w (.cells c elem)) where
  ext := h.ext.trans (Ren.put_ext hq)
  os := h.os
  tape := h.tape
  output := h.output
  size := by show w0.heap.size ≤ (w.heap.push _).size; rw [Array.size_push]; have := h.size; omega
  frame := fun b hb hu => by
    rw [← h.frame b hb hu]
    show (w.heap.push _)[b]? = _
    have := h.size
    rw [Array.getElem?_push, if_neg (by omega)]
  own := fun p K hl hK => by
    by_cases e : p = q
    · simp [Ren.put, e] at hK
      left
      rw [← hK]
      exact h.size
    · simp [Ren.put, e] at hK
      exact h.own p K hl hK
  next := h.next
  new := fun p K h1 h2 => by
    by_cases e : p = q
    · rw [e]; exact hn
    · simp [Ren.put, e] at h2
      exact h.new p K h1 h2
  old := h.old
  keep := fun p hp t hg => by
    obtain ⟨g1, c1⟩ := h.keep p hp t hg
    refine ⟨g1, fun L hL hb => ?_⟩
    rw [← c1 L hL hb]
    show (w.heap.push _)[L.b]? = _
    have := h.size
    rw [Array.getElem?_push, if_neg (by omega)]

end
end Go.Dx
