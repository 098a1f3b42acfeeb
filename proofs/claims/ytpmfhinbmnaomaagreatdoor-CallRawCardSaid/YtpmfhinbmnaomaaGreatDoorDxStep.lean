/-
  Regions that draw: whatever the order, it comes to the same.
-/
import Derived.Test.YtpmfhinbmnaomaaGreatDoorDxTrace
set_option linter.unusedSimpArgs false
set_option linter.unusedVariables false
set_option linter.unusedSectionVars false
namespace Go.Dx

def dstOf (ops : Array Oper) (j : Nat) : Option Tmp := (ops[j]?).bind (·.dst)

theorem backsOf_ge {p : List Nat} : ∀ {pre r : List Nat}, (∀ i ∈ pre, i ∉ p) → pre.length ≤ backsOf p (pre ++ r) := by
  intro pre
  induction pre with
  | nil => intro r _; simp
  | cons i pre ih =>
    intro r hh
    simp only [List.cons_append, backsOf, List.length_cons]
    have : p.contains i = false := by
      cases hc : p.contains i with
      | false => rfl
      | true => exact (hh i (by simp) (List.contains_iff_mem.1 hc)).elim
    rw [this]
    simp only [Bool.false_eq_true, if_false]
    have := ih (r := r) fun j hj => hh j (by simp [hj])
    omega

/-- A state of the run along the region's one order. -/
structure DS where
  done : List Nat
  hvs : List Nat
  R : List Pos
  Hs : List Heap
  ls : AV
  fr : Tr AV
  H : Heap

structure AtD (P : Program) (C : Ctx) (ops : Array Oper) (pr : List (List Nat)) (i : Nat) (o : Oper) (g : Option (Nat × Bool)) (ci : CI) (s : DS) : Prop where
  op : ops[i]? = some o
  dst : dstOk C (namesOf ops s.done) o.dst = true
  placed : placed ops pr i o s.done = true
  guard : guardP ops (namesOf ops s.done) o.guard = some g

/-- It threw, or comes behind what threw. -/
inductive Bad (pr : List (List Nat)) (x : Option Nat) : Nat → Prop where
  | self {i : Nat} (h : x = some i) : Bad pr x i
  | step {j k : Nat} (h : k ∈ pr.getD j []) (b : Bad pr x k) : Bad pr x j

inductive StepD (P : Program) (C : Ctx) (ops : Array Oper) (pr : List (List Nat)) (call : Nat → AV → Heap → Option (CR × Heap)) (x : Option Nat) (i : Nat) : Bool → Option (Pos × AO) → AV → DS → DS → Prop where
  | skip {o : Oper} {g : Option (Nat × Bool)} {ci : CI} {s : DS} {h : Bool} (A : AtD P C ops pr i o g ci s) (hw : wanted s.ls g = some false) (hh : h = true → s.done.all (pr.getD i []).contains = true) :
      StepD P C ops pr call x i h none undefA s ⟨i :: s.done, if h then i :: s.hvs else s.hvs, s.R, if h then s.H :: s.Hs else s.Hs, .cons undefA s.ls, setDst s.fr (farDst C o.dst) undefA, s.H⟩
  | heavy {o : Oper} {g : Option (Nat × Bool)} {ci : CI} {s : DS} {v : AV} {H' : Heap} (A : AtD P C ops pr i o g ci s) (hc : opP P C (namesOf ops s.done) o.op = some ci) (hw : wanted s.ls g = some true) (hh : s.done.all (pr.getD i []).contains = true) (hev : CI.run call noY s.ls s.fr s.H ci = some (.ret v, H')) :
      StepD P C ops pr call x i true none v s ⟨i :: s.done, i :: s.hvs, s.R, s.H :: s.Hs, .cons v s.ls, setDst s.fr (farDst C o.dst) v, H'⟩
  | light {o : Oper} {g : Option (Nat × Bool)} {ci : CI} {s : DS} {v : AV} {H1 : Heap} (A : AtD P C ops pr i o g ci s) (hc : opP P C (namesOf ops s.done) o.op = some ci) (hw : wanted s.ls g = some true) (hl : ci.light = true) (hev : ci.ev s.ls s.fr s.H = some (v, H1))
      (hb : backs ci s.ls s.fr v (backsOf (pr.getD i []) s.hvs) s.Hs = true) :
      StepD P C ops pr call x i false none v s ⟨i :: s.done, s.hvs, s.R, s.Hs, .cons v s.ls, setDst s.fr (farDst C o.dst) v, s.H⟩
  | float {o : Oper} {g : Option (Nat × Bool)} {ci : CI} {s : DS} {v : AV} {p : Pos} {R : List Pos} {F : Heap} {ob : AO} (A : AtD P C ops pr i o g ci s) (hc : opP P C (namesOf ops s.done) o.op = some ci) (hw : wanted s.ls g = some true) (hf : ci.float = true) (hR : s.R = p :: R)
      (hev : ci.ev s.ls s.fr ⟨p, .leaf⟩ = some (v, F)) (hF : F.get p = some ob) :
      StepD P C ops pr call x i false (some (p, ob)) v s ⟨i :: s.done, s.hvs, R, putAll p ob s.Hs, .cons v s.ls, setDst s.fr (farDst C o.dst) v, s.H.put p ob⟩
  | blocked {o : Oper} {g : Option (Nat × Bool)} {ci : CI} {s : DS} {h : Bool} (A : AtD P C ops pr i o g ci s) (hb : Bad pr x i) (hh : h = true → s.done.all (pr.getD i []).contains = true) :
      StepD P C ops pr call x i h none undefA s ⟨i :: s.done, if h then i :: s.hvs else s.hvs, s.R, if h then s.H :: s.Hs else s.Hs, .cons undefA s.ls, setDst s.fr (farDst C o.dst) undefA, s.H⟩

section
variable {P : Program} {C : Ctx} {ops : Array Oper} {pr : List (List Nat)} {call : Nat → AV → Heap → Option (CR × Heap)}

theorem trace : ∀ (σ : List Nat) (s : DS) (ds : DIs) (fr' : Tr AV) (H' : Heap), opsD P C ops pr σ s.done s.hvs = some ds → ds.run call s.R s.Hs s.ls s.fr s.H = some (fr', H') →
    ∃ (st : Nat → DS) (id : Nat → Nat) (h : Nat → Bool) (f : Nat → Option (Pos × AO)) (vl : Nat → AV), st 0 = s ∧ (∀ p, p < σ.length → StepD P C ops pr call none (id p) (h p) (f p) (vl p) (st p) (st (p + 1))) ∧
      (st σ.length).fr = fr' ∧ (st σ.length).H = H' ∧ (List.range ops.size).all (st σ.length).done.contains = true := by
  intro σ
  induction σ with
  | nil =>
    intro s ds fr' H' hc hr
    simp only [opsD] at hc
    split at hc
    · rename_i hall
      cases hc
      simp only [DIs.run] at hr
      cases hr
      exact ⟨fun _ => s, fun _ => 0, fun _ => false, fun _ => none, fun _ => undefA, rfl, fun p hp => absurd hp (by simp), rfl, rfl, hall⟩
    · cases hc
  | cons i σ ih =>
    intro s ds fr' H' hc hr
    have cont : ∀ (h : Bool) (f : Option (Pos × AO)) (v : AV) (s1 : DS) (ds1 : DIs), StepD P C ops pr call none i h f v s s1 → opsD P C ops pr σ s1.done s1.hvs = some ds1 → ds1.run call s1.R s1.Hs s1.ls s1.fr s1.H = some (fr', H') →
        ∃ (st : Nat → DS) (id : Nat → Nat) (h : Nat → Bool) (f : Nat → Option (Pos × AO)) (vl : Nat → AV), st 0 = s ∧ (∀ p, p < (i :: σ).length → StepD P C ops pr call none (id p) (h p) (f p) (vl p) (st p) (st (p + 1))) ∧
          (st (i :: σ).length).fr = fr' ∧ (st (i :: σ).length).H = H' ∧ (List.range ops.size).all (st (i :: σ).length).done.contains = true := by
      intro h f v s1 ds1 hs hc1 hr1
      obtain ⟨st, id, hh, ff, vl, e0, e1, e2, e3, e4⟩ := ih s1 ds1 fr' H' hc1 hr1
      refine ⟨fun | 0 => s | p + 1 => st p, fun | 0 => i | p + 1 => id p, fun | 0 => h | p + 1 => hh p, fun | 0 => f | p + 1 => ff p, fun | 0 => v | p + 1 => vl p, rfl, ?_, e2, e3, e4⟩
      intro p hp
      cases p with
      | zero => simp only [e0]; exact hs
      | succ p => exact e1 p (by simpa using hp)
    simp only [opsD] at hc
    split at hc
    · cases hc
    · rename_i o ho
      split at hc
      · cases hc
      · rename_i hd
        simp only [Bool.not_eq_true', Bool.not_eq_false] at hd
        split at hc
        · cases hc
        · rename_i hpl
          simp only [Bool.not_eq_true', Bool.not_eq_false] at hpl
          split at hc
          · rename_i g ci hg hci
            have A : AtD P C ops pr i o g ci s := ⟨ho, hd, hpl, hg⟩
            split at hc
            · rename_i hl
              obtain ⟨ds1, hds1, rfl⟩ := Option.map_eq_some_iff.1 hc
              simp only [DIs.run] at hr
              split at hr
              · cases hr
              · rename_i hw
                exact cont false none undefA _ ds1 (.skip (h := false) A hw (fun h => by cases h)) hds1 hr
              · rename_i hw
                split at hr
                · rename_i v H1 hev
                  split at hr
                  · rename_i hb
                    exact cont false none v _ ds1 (.light A hci hw hl hev hb) hds1 hr
                  · cases hr
                · cases hr
            · split at hc
              · rename_i hf
                obtain ⟨ds1, hds1, rfl⟩ := Option.map_eq_some_iff.1 hc
                simp only [DIs.run] at hr
                split at hr
                · cases hr
                · rename_i hw
                  exact cont false none undefA _ ds1 (.skip (h := false) A hw (fun h => by cases h)) hds1 hr
                · rename_i hw
                  split at hr
                  · cases hr
                  · rename_i p R hR
                    split at hr
                    · rename_i v F hev
                      split at hr
                      · rename_i ob hF
                        exact cont false (some (p, ob)) v _ ds1 (.float A hci hw hf hR hev hF) hds1 hr
                      · cases hr
                    · cases hr
              · split at hc
                · rename_i hh
                  obtain ⟨ds1, hds1, rfl⟩ := Option.map_eq_some_iff.1 hc
                  simp only [DIs.run] at hr
                  split at hr
                  · cases hr
                  · rename_i hw
                    exact cont true none undefA _ ds1 (.skip (h := true) A hw (fun _ => hh)) hds1 hr
                  · rename_i hw
                    split at hr
                    · rename_i v H1 hev
                      exact cont true none v _ ds1 (.heavy A hci hw hh hev) hds1 hr
                    · cases hr
                · cases hc
          · -- what is not taken
            rename_i g hg hci
            have A : AtD P C ops pr i o g stuckCI s := ⟨ho, hd, hpl, hg⟩
            obtain ⟨ds1, hds1, rfl⟩ := Option.map_eq_some_iff.1 hc
            simp only [DIs.run] at hr
            split at hr
            · cases hr
            · rename_i hw
              exact cont false none undefA _ ds1 (.skip (h := false) A hw (fun h => by cases h)) hds1 hr
            · have : CI.ev s.ls s.fr s.H stuckCI = none := rfl
              rw [this] at hr
              cases hr
          · cases hc

/-- One that threw, in its place. -/
structure PanD (P : Program) (C : Ctx) (ops : Array Oper) (pr : List (List Nat)) (call : Nat → AV → Heap → Option (CR × Heap)) (x : Option Nat) (n : Nat) (st : Nat → DS) (id : Nat → Nat) (h : Nat → Bool) (r : AV × Tr AV × Heap) (p : Nat) : Prop where
  lt : p < n
  is : x = some (id p)
  heavy : h p = true
  run : ∃ o g ci, AtD P C ops pr (id p) o g ci (st p) ∧ opP P C (namesOf ops (st p).done) o.op = some ci ∧ wanted (st p).ls g = some true ∧ CI.run call noY (st p).ls (st p).fr (st p).H ci = some (.pan r.1, r.2.2)
  fr : r.2.1 = (st p).fr
  later : ∀ q, p < q → q < n → ¬Bad pr x (id q) → ∀ t, dstOf ops (id q) = some t → C.far t = true → (st p).fr.get (key (t + 1)) = none

theorem setDst_none {fr : Tr AV} {dst : Option Pos} {v : AV} {p : Pos} (h : (setDst fr dst v).get p = none) : fr.get p = none := by
  cases dst with
  | none => exact h
  | some q =>
    simp only [setDst, Tr.get_set] at h
    split at h
    · cases h
    · exact h
theorem trace_tail {x : Option Nat} {fr0 : Tr AV} : ∀ (σ : List Nat) (s : DS) (ds : DIs) (c : Nat), opsD P C ops pr σ s.done s.hvs = some ds → ds.tail c s.R s.Hs s.ls s.fr s.H = true → (∀ p, s.fr.get p = none → fr0.get p = none) → (∃ pre post, s.hvs = pre ++ post ∧ pre.length = c ∧ ∀ j ∈ pre, Bad pr x j) → (∃ j ∈ s.done, Bad pr x j) →
    ∃ (st : Nat → DS) (id : Nat → Nat) (h : Nat → Bool) (f : Nat → Option (Pos × AO)) (vl : Nat → AV), st 0 = s ∧ (∀ p, p < σ.length → StepD P C ops pr call x (id p) (h p) (f p) (vl p) (st p) (st (p + 1))) ∧
      (List.range ops.size).all (st σ.length).done.contains = true ∧ ∀ q, q < σ.length → ¬Bad pr x (id q) → ∀ t, dstOf ops (id q) = some t → C.far t = true → fr0.get (key (t + 1)) = none := by
  intro σ
  induction σ with
  | nil =>
    intro s ds c hc hr _ _ _
    simp only [opsD] at hc
    split at hc
    · rename_i hall
      exact ⟨fun _ => s, fun _ => 0, fun _ => false, fun _ => none, fun _ => undefA, rfl, fun p hp => absurd hp (by simp), hall, fun p hp => absurd hp (by simp)⟩
    · cases hc
  | cons i σ ih =>
    intro s ds c hc hr hfr hbs hbd
    have cont : ∀ (h : Bool) (f : Option (Pos × AO)) (v : AV) (s1 : DS) (ds1 : DIs) (c1 : Nat), StepD P C ops pr call x i h f v s s1 → opsD P C ops pr σ s1.done s1.hvs = some ds1 → ds1.tail c1 s1.R s1.Hs s1.ls s1.fr s1.H = true → (∀ p, s1.fr.get p = none → fr0.get p = none) →
        (∃ pre post, s1.hvs = pre ++ post ∧ pre.length = c1 ∧ ∀ j ∈ pre, Bad pr x j) → (∃ j ∈ s1.done, Bad pr x j) → (¬Bad pr x i → ∀ t, dstOf ops i = some t → C.far t = true → fr0.get (key (t + 1)) = none) →
        ∃ (st : Nat → DS) (id : Nat → Nat) (h : Nat → Bool) (f : Nat → Option (Pos × AO)) (vl : Nat → AV), st 0 = s ∧ (∀ p, p < (i :: σ).length → StepD P C ops pr call x (id p) (h p) (f p) (vl p) (st p) (st (p + 1))) ∧
          (List.range ops.size).all (st (i :: σ).length).done.contains = true ∧ ∀ q, q < (i :: σ).length → ¬Bad pr x (id q) → ∀ t, dstOf ops (id q) = some t → C.far t = true → fr0.get (key (t + 1)) = none := by
      intro h f v s1 ds1 c1 hs hc1 hr1 hq1 hb1 hd1 hf1
      obtain ⟨st, id, hh, ff, vl, e0, e1, e4, e5⟩ := ih s1 ds1 c1 hc1 hr1 hq1 hb1 hd1
      refine ⟨fun | 0 => s | p + 1 => st p, fun | 0 => i | p + 1 => id p, fun | 0 => h | p + 1 => hh p, fun | 0 => f | p + 1 => ff p, fun | 0 => v | p + 1 => vl p, rfl, ?_, e4, ?_⟩
      · intro p hp
        cases p with
        | zero => simp only [e0]; exact hs
        | succ p => exact e1 p (by simpa using hp)
      · intro p hp
        cases p with
        | zero => exact hf1
        | succ p => exact e5 p (by simpa using hp)
    have dn : ∀ j, (∃ k ∈ s.done, Bad pr x k) → ∃ k ∈ j :: s.done, Bad pr x k := fun j ⟨k, h1, h2⟩ => ⟨k, by simp [h1], h2⟩
    simp only [opsD] at hc
    split at hc
    · cases hc
    · rename_i o ho
      have hdo : dstOf ops i = o.dst := by unfold dstOf; rw [ho]; rfl
      have hset : ∀ v p, (setDst s.fr (farDst C o.dst) v).get p = none → fr0.get p = none := fun v p h => hfr p (setDst_none h)
      have hslot : slotFree s.fr (farDst C o.dst) = true → ¬Bad pr x i → ∀ t, dstOf ops i = some t → C.far t = true → fr0.get (key (t + 1)) = none := fun h _ t ht hft => by
        rw [hdo] at ht
        rw [ht] at h
        simp only [farDst, hft, if_true, slotFree, Option.isNone_iff_eq_none] at h
        exact hfr _ h
      split at hc
      · cases hc
      · rename_i hd
        simp only [Bool.not_eq_true', Bool.not_eq_false] at hd
        split at hc
        · cases hc
        · rename_i hpl
          simp only [Bool.not_eq_true', Bool.not_eq_false] at hpl
          -- a light one
          have light : ∀ {g : Option (Nat × Bool)} {ci : CI} {ds1 : DIs}, AtD P C ops pr i o g ci s → opsD P C ops pr σ (i :: s.done) s.hvs = some ds1 →
              (∀ v H1, wanted s.ls g = some true → ci.ev s.ls s.fr s.H = some (v, H1) → opP P C (namesOf ops s.done) o.op = some ci ∧ ci.light = true) →
              (DIs.cons g ci (farDst C o.dst) (.light (backsOf (pr.getD i []) s.hvs)) ds1).tail c s.R s.Hs s.ls s.fr s.H = true →
              ∃ (st : Nat → DS) (id : Nat → Nat) (h : Nat → Bool) (f : Nat → Option (Pos × AO)) (vl : Nat → AV), st 0 = s ∧ (∀ p, p < (i :: σ).length → StepD P C ops pr call x (id p) (h p) (f p) (vl p) (st p) (st (p + 1))) ∧
                (List.range ops.size).all (st (i :: σ).length).done.contains = true ∧ ∀ q, q < (i :: σ).length → ¬Bad pr x (id q) → ∀ t, dstOf ops (id q) = some t → C.far t = true → fr0.get (key (t + 1)) = none := by
            intro g ci ds1 A hds1 hok ht
            simp only [DIs.tail] at ht
            split at ht
            · rename_i hlt
              obtain ⟨pre, post, p1, p2, p3⟩ := hbs
              have hbad : Bad pr x i := by
                apply Classical.byContradiction
                intro hn
                have := backsOf_ge (p := pr.getD i []) (pre := pre) (r := post) fun j hj hm => hn (.step hm (p3 j hj))
                rw [← p1] at this
                omega
              exact cont false none undefA _ ds1 c (.blocked (h := false) A hbad (fun h => by cases h)) hds1 ht (hset undefA) ⟨pre, post, p1, p2, p3⟩ (dn i hbd) (fun h => (h hbad).elim)
            · rw [Bool.and_eq_true] at ht
              obtain ⟨hsl, ht⟩ := ht
              split at ht
              · rename_i hw
                exact cont false none undefA _ ds1 c (.skip (h := false) A hw (fun h => by cases h)) hds1 ht (hset undefA) hbs (dn i hbd) (hslot hsl)
              · rename_i hw
                split at ht
                · rename_i v H1 hev
                  rw [Bool.and_eq_true] at ht
                  obtain ⟨hci, hl⟩ := hok v H1 hw hev
                  exact cont false none v _ ds1 c (.light A hci hw hl hev ht.1) hds1 ht.2 (hset v) hbs (dn i hbd) (hslot hsl)
                · cases ht
              · cases ht
          split at hc
          · rename_i g ci hg hci
            have A : AtD P C ops pr i o g ci s := ⟨ho, hd, hpl, hg⟩
            split at hc
            · rename_i hl
              obtain ⟨ds1, hds1, rfl⟩ := Option.map_eq_some_iff.1 hc
              exact light A hds1 (fun _ _ _ _ => ⟨hci, hl⟩) hr
            · split at hc
              · rename_i hf
                obtain ⟨ds1, hds1, rfl⟩ := Option.map_eq_some_iff.1 hc
                simp only [DIs.tail] at hr
                rw [Bool.and_eq_true] at hr
                obtain ⟨hsl, hr⟩ := hr
                split at hr
                · rename_i hw
                  exact cont false none undefA _ ds1 c (.skip (h := false) A hw (fun h => by cases h)) hds1 hr (hset undefA) hbs (dn i hbd) (hslot hsl)
                · rename_i hw
                  split at hr
                  · cases hr
                  · rename_i p R hR
                    split at hr
                    · rename_i v F hev
                      split at hr
                      · rename_i ob hF
                        exact cont false (some (p, ob)) v _ ds1 c (.float A hci hw hf hR hev hF) hds1 hr (hset v) hbs (dn i hbd) (hslot hsl)
                      · cases hr
                    · cases hr
                · cases hr
              · split at hc
                · rename_i hh
                  obtain ⟨ds1, hds1, rfl⟩ := Option.map_eq_some_iff.1 hc
                  simp only [DIs.tail] at hr
                  obtain ⟨k, hk1, hk2⟩ := hbd
                  have hbad : Bad pr x i := .step (List.contains_iff_mem.1 (List.all_eq_true.1 hh k hk1)) hk2
                  obtain ⟨pre, post, p1, p2, p3⟩ := hbs
                  exact cont true none undefA _ ds1 (c + 1) (.blocked (h := true) A hbad (fun _ => hh)) hds1 hr (hset undefA) ⟨i :: pre, post, by simp [p1], by simp [p2], fun j hj => by
                    rcases List.mem_cons.1 hj with rfl | hj
                    · exact hbad
                    · exact p3 j hj⟩ ⟨i, by simp, hbad⟩ (fun h => (h hbad).elim)
                · cases hc
          · rename_i g hg hci
            have A : AtD P C ops pr i o g stuckCI s := ⟨ho, hd, hpl, hg⟩
            obtain ⟨ds1, hds1, rfl⟩ := Option.map_eq_some_iff.1 hc
            exact light A hds1 (fun v H1 _ hev => by
              have : CI.ev s.ls s.fr s.H stuckCI = none := rfl
              rw [this] at hev
              cases hev) hr
          · cases hc

theorem trace_pan : ∀ (σ : List Nat) (s : DS) (ds : DIs) (r : AV × Tr AV × Heap), opsD P C ops pr σ s.done s.hvs = some ds → ds.pan call s.R s.Hs s.ls s.fr s.H = some r →
    ∃ (x : Option Nat) (st : Nat → DS) (id : Nat → Nat) (h : Nat → Bool) (f : Nat → Option (Pos × AO)) (vl : Nat → AV) (p : Nat), st 0 = s ∧ (∀ p, p < σ.length → StepD P C ops pr call x (id p) (h p) (f p) (vl p) (st p) (st (p + 1))) ∧
      (List.range ops.size).all (st σ.length).done.contains = true ∧ PanD P C ops pr call x σ.length st id h r p := by
  intro σ
  induction σ with
  | nil =>
    intro s ds r hc hr
    simp only [opsD] at hc
    split at hc
    · cases hc
      cases hr
    · cases hc
  | cons i σ ih =>
    intro s ds r hc hr
    have cont : ∀ (h : Bool) (f : Option (Pos × AO)) (v : AV) (s1 : DS) (ds1 : DIs), (∀ x, StepD P C ops pr call x i h f v s s1) → opsD P C ops pr σ s1.done s1.hvs = some ds1 → ds1.pan call s1.R s1.Hs s1.ls s1.fr s1.H = some r →
        ∃ (x : Option Nat) (st : Nat → DS) (id : Nat → Nat) (h : Nat → Bool) (f : Nat → Option (Pos × AO)) (vl : Nat → AV) (p : Nat), st 0 = s ∧ (∀ p, p < (i :: σ).length → StepD P C ops pr call x (id p) (h p) (f p) (vl p) (st p) (st (p + 1))) ∧
          (List.range ops.size).all (st (i :: σ).length).done.contains = true ∧ PanD P C ops pr call x (i :: σ).length st id h r p := by
      intro h f v s1 ds1 hs hc1 hr1
      obtain ⟨x, st, id, hh, ff, vl, p0, e0, e1, e4, PD⟩ := ih s1 ds1 r hc1 hr1
      refine ⟨x, fun | 0 => s | p + 1 => st p, fun | 0 => i | p + 1 => id p, fun | 0 => h | p + 1 => hh p, fun | 0 => f | p + 1 => ff p, fun | 0 => v | p + 1 => vl p, p0 + 1, rfl, ?_, e4, ?_⟩
      · intro p hp
        cases p with
        | zero => simp only [e0]; exact hs x
        | succ p => exact e1 p (by simpa using hp)
      · refine ⟨by have := PD.lt; simp; omega, PD.is, PD.heavy, PD.run, PD.fr, fun q h1 h2 => ?_⟩
        cases q with
        | zero => omega
        | succ q => exact PD.later q (by omega) (by simpa using h2)
    simp only [opsD] at hc
    split at hc
    · cases hc
    · rename_i o ho
      split at hc
      · cases hc
      · rename_i hd
        simp only [Bool.not_eq_true', Bool.not_eq_false] at hd
        split at hc
        · cases hc
        · rename_i hpl
          simp only [Bool.not_eq_true', Bool.not_eq_false] at hpl
          split at hc
          · rename_i g ci hg hci
            have A : AtD P C ops pr i o g ci s := ⟨ho, hd, hpl, hg⟩
            split at hc
            · rename_i hl
              obtain ⟨ds1, hds1, rfl⟩ := Option.map_eq_some_iff.1 hc
              simp only [DIs.pan] at hr
              split at hr
              · cases hr
              · rename_i hw
                exact cont false none undefA _ ds1 (fun _ => .skip (h := false) A hw (fun h => by cases h)) hds1 hr
              · rename_i hw
                split at hr
                · rename_i v H1 hev
                  split at hr
                  · rename_i hb
                    exact cont false none v _ ds1 (fun _ => .light A hci hw hl hev hb) hds1 hr
                  · cases hr
                · cases hr
            · split at hc
              · rename_i hf
                obtain ⟨ds1, hds1, rfl⟩ := Option.map_eq_some_iff.1 hc
                simp only [DIs.pan] at hr
                split at hr
                · cases hr
                · rename_i hw
                  exact cont false none undefA _ ds1 (fun _ => .skip (h := false) A hw (fun h => by cases h)) hds1 hr
                · rename_i hw
                  split at hr
                  · cases hr
                  · rename_i p R hR
                    split at hr
                    · rename_i v F hev
                      split at hr
                      · rename_i ob hF
                        exact cont false (some (p, ob)) v _ ds1 (fun _ => .float A hci hw hf hR hev hF) hds1 hr
                      · cases hr
                    · cases hr
              · split at hc
                · rename_i hh
                  obtain ⟨ds1, hds1, rfl⟩ := Option.map_eq_some_iff.1 hc
                  simp only [DIs.pan] at hr
                  split at hr
                  · cases hr
                  · rename_i hw
                    exact cont true none undefA _ ds1 (fun _ => .skip (h := true) A hw (fun _ => hh)) hds1 hr
                  · rename_i hw
                    split at hr
                    · rename_i v H1 hev
                      exact cont true none v _ ds1 (fun _ => .heavy A hci hw hh hev) hds1 hr
                    · -- it throws
                      rename_i v H1 hev
                      split at hr
                      · rename_i ht
                        cases hr
                        obtain ⟨st, id, h, f, vl, e0, e1, e4, e5⟩ := trace_tail (call := call) (x := some i) (fr0 := s.fr) σ ⟨i :: s.done, i :: s.hvs, s.R, s.H :: s.Hs, .cons undefA s.ls, setDst s.fr (farDst C o.dst) undefA, s.H⟩ ds1 1 hds1 ht (fun p h => setDst_none h)
                          ⟨[i], s.hvs, rfl, rfl, fun j hj => by simp at hj; subst hj; exact .self rfl⟩ ⟨i, by simp, .self rfl⟩
                        refine ⟨some i, fun | 0 => s | p + 1 => st p, fun | 0 => i | p + 1 => id p, fun | 0 => true | p + 1 => h p, fun | 0 => none | p + 1 => f p, fun | 0 => undefA | p + 1 => vl p, 0, rfl, ?_, e4, ?_⟩
                        · intro p hp
                          cases p with
                          | zero => simp only [e0]; exact .blocked (h := true) A (.self rfl) (fun _ => hh)
                          | succ p => exact e1 p (by simpa using hp)
                        · refine ⟨by simp, rfl, rfl, ⟨o, g, ci, A, hci, hw, hev⟩, rfl, fun q h1 h2 => ?_⟩
                          cases q with
                          | zero => omega
                          | succ q => exact e5 q (by simpa using h2)
                      · cases hr
                    · cases hr
                · cases hc
          · rename_i g hg hci
            have A : AtD P C ops pr i o g stuckCI s := ⟨ho, hd, hpl, hg⟩
            obtain ⟨ds1, hds1, rfl⟩ := Option.map_eq_some_iff.1 hc
            simp only [DIs.pan] at hr
            split at hr
            · cases hr
            · rename_i hw
              exact cont false none undefA _ ds1 (fun _ => .skip (h := false) A hw (fun h => by cases h)) hds1 hr
            · have : CI.ev s.ls s.fr s.H stuckCI = none := rfl
              rw [this] at hr
              cases hr
          · cases hc

/-! What is added to a state of memory. -/
def addF (H : Heap) : Option (Pos × AO) → Heap
  | none => H
  | some (p, o) => H.put p o

def adds (f : Nat → Option (Pos × AO)) : Nat → Nat → Heap → Heap
  | _, 0, H => H
  | m, k + 1, H => adds f (m + 1) k (addF H (f m))

def look (f : Nat → Option (Pos × AO)) (q : Pos) : Nat → Nat → Option AO
  | _, 0 => none
  | m, k + 1 =>
    match look f q (m + 1) k with
    | some o => some o
    | none => match f m with
      | some (p, o) => if q = p then some o else none
      | none => none

theorem put_get (H : Heap) (p q : Pos) (o : AO) : (H.put p o).get q = if q = p then some o else H.get q := by simp [Heap.put, Heap.get, Tr.get_set]

theorem adds_get (f : Nat → Option (Pos × AO)) (q : Pos) : ∀ (k m : Nat) (H : Heap), (adds f m k H).get q = match look f q m k with | some o => some o | none => H.get q := by
  intro k
  induction k with
  | zero => intro m H; rfl
  | succ k ih =>
    intro m H
    simp only [adds, look]
    rw [ih]
    cases look f q (m + 1) k with
    | some o => rfl
    | none =>
      simp only
      cases hf : f m with
      | none => rfl
      | some po =>
        obtain ⟨p, o⟩ := po
        simp only [addF, put_get]
        split <;> rfl

theorem adds_next (f : Nat → Option (Pos × AO)) : ∀ (k m : Nat) (H : Heap), (adds f m k H).next = H.next := by
  intro k
  induction k with
  | zero => intro m H; rfl
  | succ k ih =>
    intro m H
    simp only [adds]
    rw [ih]
    cases f m with
    | none => rfl
    | some po => rfl

theorem adds_add (f : Nat → Option (Pos × AO)) : ∀ (k m l : Nat) (H : Heap), adds f m (k + l) H = adds f (m + k) l (adds f m k H) := by
  intro k
  induction k with
  | zero => intro m l H; simp [adds]
  | succ k ih =>
    intro m l H
    rw [show k + 1 + l = (k + l) + 1 by omega]
    simp only [adds]
    rw [ih]
    congr 1
    omega

theorem look_some (f : Nat → Option (Pos × AO)) (q : Pos) : ∀ (k m : Nat) (o : AO), look f q m k = some o → ∃ r, m ≤ r ∧ r < m + k ∧ f r = some (q, o) := by
  intro k
  induction k with
  | zero => intro m o h; cases h
  | succ k ih =>
    intro m o h
    simp only [look] at h
    split at h
    · rename_i o' ho
      cases h
      obtain ⟨r, h1, h2, h3⟩ := ih _ _ ho
      exact ⟨r, by omega, by omega, h3⟩
    · split at h
      · rename_i p o' hf
        split at h
        · rename_i e
          cases h
          subst e
          exact ⟨m, Nat.le_refl _, by omega, hf⟩
        · cases h
      · cases h

theorem look_ne (f : Nat → Option (Pos × AO)) (q : Pos) : ∀ (k m r : Nat) (o : AO), m ≤ r → r < m + k → f r = some (q, o) → look f q m k ≠ none := by
  intro k
  induction k with
  | zero => intro m r o h1 h2; omega
  | succ k ih =>
    intro m r o h1 h2 h3 h
    simp only [look] at h
    split at h
    · cases h
    · rename_i hn
      by_cases e : m = r
      · subst e
        rw [h3] at h
        simp at h
      · exact ih (m + 1) r o (by omega) (by omega) h3 hn

/-! Memory to which objects were added. -/
structure Over (E : Heap) (L : Pos → Option AO) (M : Heap) : Prop where
  get : ∀ q, M.get q = match L q with | some o => some o | none => E.get q
  next : M.next = E.next
  free : ∀ q o, L q = some o → E.live q = false ∧ q.num < E.next.num

variable {ng : Nat} {ρ ρ' : Ren} {E E' M M' : Heap} {L : Pos → Option AO} {w w' : World}

theorem Over.live_of (h : Over E L M) {q : Pos} (hq : E.live q = true) : L q = none ∧ M.get q = E.get q ∧ M.live q = true := by
  have hn : L q = none := by
    cases hL : L q with
    | none => rfl
    | some o => rw [(h.free q o hL).1] at hq; cases hq
  have hg : M.get q = E.get q := by rw [h.get, hn]
  exact ⟨hn, hg, by rw [live_congr hg]; exact hq⟩

theorem HRel.sub (h : HRel P ng ρ M w) (ho : Over E L M) : HRel P ng ρ E w where
  objs := fun p o K hp hd hK => by
    obtain ⟨_, hg, _⟩ := ho.live_of (live_of_get hp hd)
    exact h.objs p o K (by rw [hg]; exact hp) hd hK
  inj := fun p q K N hp hq hK hN hb => h.inj p q K N (ho.live_of hp).2.2 (ho.live_of hq).2.2 hK hN hb
  bound := h.bound
  fresh := fun p hp => h.fresh p (by rw [ho.next]; exact hp)
  globals := h.globals
  wf := fun p hp => by
    cases hl : E.live p with
    | false => rfl
    | true =>
      have h1 := (ho.live_of hl).2.2
      rw [h.wf p (by rw [ho.next]; exact hp)] at h1
      cases h1
  loops := fun p o hp => by
    cases hL : L p with
    | none => exact h.loops p o (by rw [ho.get, hL]; exact hp)
    | some o' =>
      have hl := (ho.free p o' hL).1
      cases o with
      | dead => trivial
      | _ => rw [live_of_get hp (by simp)] at hl; cases hl

theorem carry (hM : HRel P ng ρ M w) (hE : HRel P ng ρ' E' w') (hS : Step ρ E w ρ' E' w') (ho : Over E L M) (g2 : ∀ q, M'.get q = match L q with | some o => some o | none => E'.get q) (n2 : M'.next = E'.next) :
    HRel P ng ρ' M' w' ∧ Step ρ M w ρ' M' w' := by
  have dead' : ∀ q o, L q = some o → E'.live q = false := fun q o h => hS.old q (ho.free q o h).2 (ho.free q o h).1
  have same : ∀ q o K, L q = some o → ρ' q = some K → ρ q = some K := by
    intro q o K h hK
    cases hq : ρ q with
    | some N => rw [hS.ext q N hq] at hK; exact hK
    | none => have := hS.new q K hq hK; have := (ho.free q o h).2; omega
  have kept : ∀ q o K, L q = some o → o ≠ .dead → ρ q = some K → ∀ r N, E.live r = true → ρ r = some N → N.b ≠ K.b := by
    intro q o K h hd hK r N hr hN e
    have hl : M.live q = true := live_of_get (o := o) (by rw [ho.get, h]) hd
    have := hM.inj r q N K (ho.live_of hr).2.2 hl hN hK e
    subst this
    rw [(ho.free r o h).1] at hr
    cases hr
  have key : ∀ q, M'.live q = true → (∃ o, L q = some o ∧ o ≠ .dead ∧ M'.get q = some o ∧ M.get q = some o) ∨ (L q = none ∧ E'.live q = true ∧ M'.get q = E'.get q) := by
    intro q hq
    have hg := g2 q
    cases hL : L q with
    | some o =>
      rw [hL] at hg
      left
      refine ⟨o, rfl, ?_, hg, by rw [ho.get, hL]⟩
      intro e
      subst e
      unfold Heap.live at hq
      rw [hg] at hq
      cases hq
    | none =>
      rw [hL] at hg
      exact .inr ⟨rfl, by rw [← live_congr hg]; exact hq, hg⟩
  constructor
  · refine ⟨?_, ?_, hE.bound, fun p hp => hE.fresh p (by rw [← n2]; exact hp), hE.globals, ?_, fun q o hq => by
      have hg := g2 q
      rw [hq] at hg
      cases hL : L q with
      | some o' => rw [hL] at hg; cases hg; exact hM.loops q o (by rw [ho.get, hL])
      | none => rw [hL] at hg; exact hE.loops q o hg.symm⟩
    · intro q o K hq hd hK
      rcases key q (live_of_get hq hd) with ⟨o', h1, h2, h3, h4⟩ | ⟨h1, h2, h3⟩
      · rw [hq] at h3
        cases h3
        have hρ := same q o K h1 hK
        exact ((hM.objs q o K h4 h2 hρ).mono hS.ext).same (hS.frame K.b (hM.bound q K hρ) (kept q o K h1 h2 hρ))
      · exact hE.objs q o K (by rw [← h3]; exact hq) hd hK
    · intro q r K N hq hr hK hN hb
      have mix : ∀ q r K N o, L q = some o → o ≠ .dead → ρ' q = some K → M.get q = some o → E'.live r = true → ρ' r = some N → K.b = N.b → False := by
        intro q r K N o h1 h2 hK h4 hr hN hb
        have hρ := same q o K h1 hK
        rcases hS.own r N hr hN with hge | ⟨s, Z, hs, hZ, e⟩
        · have := hM.bound q K hρ; omega
        · exact kept q o K h1 h2 hρ s Z hs hZ (by rw [e, hb])
      rcases key q hq with ⟨o, h1, h2, h3, h4⟩ | ⟨h1, h2, h3⟩ <;> rcases key r hr with ⟨o', k1, k2, k3, k4⟩ | ⟨k1, k2, k3⟩
      · exact hM.inj q r K N (live_of_get h4 h2) (live_of_get k4 k2) (same q o K h1 hK) (same r o' N k1 hN) hb
      · exact (mix q r K N o h1 h2 hK h4 k2 hN hb).elim
      · exact (mix r q N K o' k1 k2 hN k4 h2 hK hb.symm).elim
      · exact hE.inj q r K N h2 k2 hK hN hb
    · intro q hq
      cases hl : M'.live q with
      | false => rfl
      | true =>
        rcases key q hl with ⟨o, h1, h2, h3, h4⟩ | ⟨h1, h2, h3⟩
        · have := (ho.free q o h1).2
          have := hS.next
          rw [n2] at hq
          omega
        · rw [hE.wf q (by rw [← n2]; exact hq)] at h2; cases h2
  · refine ⟨hS.ext, hS.os, hS.tape, hS.output, hS.size, ?_, ?_, by rw [ho.next, n2]; exact hS.next, fun p K h1 h2 => by rw [ho.next]; exact hS.new p K h1 h2, ?_, ?_⟩
    · intro b hb hn
      exact hS.frame b hb fun p K hp hK => hn p K (ho.live_of hp).2.2 hK
    · intro q K hq hK
      rcases key q hq with ⟨o, h1, h2, h3, h4⟩ | ⟨h1, h2, h3⟩
      · exact .inr ⟨q, K, live_of_get h4 h2, same q o K h1 hK, rfl⟩
      · rcases hS.own q K h2 hK with hge | ⟨s, Z, hs, hZ, e⟩
        · exact .inl hge
        · exact .inr ⟨s, Z, (ho.live_of hs).2.2, hZ, e⟩
    · intro q hq hl
      cases hl' : M'.live q with
      | false => rfl
      | true =>
        rcases key q hl' with ⟨o, h1, h2, h3, h4⟩ | ⟨h1, h2, h3⟩
        · rw [live_of_get h4 h2] at hl; cases hl
        · have hE0 : E.live q = false := by rw [← live_congr (H := E) (H' := M) (by rw [ho.get, h1])]; exact hl
          rw [hS.old q (by rw [← ho.next]; exact hq) hE0] at h2
          cases h2
    · intro q hq t hg
      have g1 := ho.get q
      have g3 := g2 q
      cases hL : L q with
      | some o =>
        rw [hL] at g1 g3
        refine ⟨by rw [g3, ← g1]; exact hg, fun K hK _ => ?_⟩
        rw [g1] at hg
        cases hg
        exact hS.frame K.b (hM.bound q K hK) (kept q _ K hL (by simp) hK)
      | none =>
        rw [hL] at g1 g3
        rw [g1] at hg
        obtain ⟨k1, k2⟩ := hS.keep q (by rw [← ho.next]; exact hq) t hg
        exact ⟨by rw [g3]; exact k1, k2⟩

/-- An object that was to come is there. -/
theorem HRel.adopt (h : HRel P ng ρ M w) {q : Pos} {vs : AV} {t : Tr AV} {c : Array Value} {elem : TypeId} (hg : M.get q = some (.cells t vs.len false)) (ht : treeOf vs = some t) (hr : RX ρ vs c.toList) (hq : ρ q = none) (hn : q.num < M.next.num) :
    HRel P ng (ρ.put q ⟨w.heap.size, 0, c.size⟩) M (pushed w (.cells c elem)) := by
  have hext := Ren.put_ext (L := ⟨w.heap.size, 0, c.size⟩) hq
  have hold : ∀ b, b < w.heap.size → (pushed w (.cells c elem)).heap[b]? = w.heap[b]? := fun b hb => by
    show (w.heap.push _)[b]? = _
    rw [Array.getElem?_push, if_neg (by omega)]
  refine ⟨?_, ?_, ?_, ?_, ?_, h.wf, h.loops⟩
  · intro p o K hp hd hK
    by_cases e : p = q
    · subst e
      simp [Ren.put] at hK
      subst hK
      rw [hg] at hp
      cases hp
      unfold treeOf at ht
      obtain ⟨hl, hg1, hg2⟩ := putCells_get _ _ _ _ ht
      have hlen := hr.len hl
      refine ⟨c, elem, (0, 0), by show (w.heap.push _)[w.heap.size]? = _; simp, rfl, by show 0 + vs.len ≤ c.size; rw [hlen]; simp, fun _ => ⟨rfl, by rw [hlen]; simp, fun i => by simp⟩, ?_, fun i _ => by simp⟩
      intro i v hv
      by_cases hi : i < vs.len
      · obtain ⟨u, hu⟩ := nth_of_lt (j := i) hl hi
        obtain ⟨hu1, hu2⟩ := hg1 _ _ hu
        rw [Nat.zero_add] at hu1
        rw [hu1] at hv; cases hv
        obtain ⟨x, hx', hR⟩ := hr.nth hu
        exact ⟨hi, x, by show c[0 + i]? = _; rw [Nat.zero_add]; simpa using hx', hR.mono hext, hu2⟩
      · rw [hg2 i (by omega), Tr.get_leaf] at hv
        cases hv
    · simp [Ren.put, e] at hK
      exact ((h.objs p o K hp hd hK).mono hext).same (hold _ (h.bound _ _ hK))
  · intro p r K N hp hr' hK hN hb
    by_cases e1 : p = q <;> by_cases e2 : r = q
    · rw [e1, e2]
    · simp [Ren.put, e1] at hK
      simp [Ren.put, e2] at hN
      have := h.bound _ _ hN
      rw [← hK] at hb
      simp at hb
      omega
    · simp [Ren.put, e2] at hN
      simp [Ren.put, e1] at hK
      have := h.bound _ _ hK
      rw [← hN] at hb
      simp at hb
      omega
    · simp [Ren.put, e1] at hK
      simp [Ren.put, e2] at hN
      exact h.inj p r K N hp hr' hK hN hb
  · intro p K hK
    show K.b < (w.heap.push _).size
    rw [Array.size_push]
    unfold Ren.put at hK
    split at hK
    · cases hK; simp
    · have := h.bound p K hK; omega
  · intro p hp
    have : p ≠ q := fun e => by rw [e] at hp; omega
    simp only [Ren.put, if_neg this]
    exact h.fresh p hp
  · intro g hgg
    obtain ⟨s, hs⟩ := h.globals g hgg
    exact ⟨s, hext _ _ hs⟩

theorem Step.adopt {ρ0 : Ren} {H0 : Heap} {w0 : World} (h : Step ρ0 H0 w0 ρ M w) {q : Pos} {c : Array Value} {elem : TypeId} {sz : Nat} (hq : ρ q = none) (hn : H0.next.num ≤ q.num) :
    Step ρ0 H0 w0 (ρ.put q ⟨w.heap.size, 0, sz⟩) M (pushed w (.cells c elem)) where
  ext := h.ext.trans (Ren.put_ext hq)
  os := h.os
  tape := h.tape
  output := h.output
  size := by show w0.heap.size ≤ (w.heap.push _).size; rw [Array.size_push]; have := h.size; omega
  frame := fun b hb hu => by
    rw [← h.frame b hb hu]
    show (w.heap.push _)[b]? = _
    have := h.size
    rw [Array.getElem?_push, if_neg (by omega)]
  own := fun p K hl hK => by
    by_cases e : p = q
    · simp [Ren.put, e] at hK
      left
      rw [← hK]
      exact h.size
    · simp [Ren.put, e] at hK
      exact h.own p K hl hK
  next := h.next
  new := fun p K h1 h2 => by
    by_cases e : p = q
    · rw [e]; exact hn
    · simp [Ren.put, e] at h2
      exact h.new p K h1 h2
  old := h.old
  keep := fun p hp t hg => by
    obtain ⟨g1, c1⟩ := h.keep p hp t hg
    refine ⟨g1, fun L hL hb => ?_⟩
    rw [← c1 L hL hb]
    show (w.heap.push _)[L.b]? = _
    have := h.size
    rw [Array.getElem?_push, if_neg (by omega)]

end
end Go.Dx
set_option linter.unusedSimpArgs false
set_option linter.unusedVariables false
set_option linter.unusedSectionVars false
namespace Go.Dx

section
variable {P : Program} {C : Ctx} {ops : Array Oper} {pr : List (List Nat)} {call : Nat → AV → Heap → Option (CR × Heap)}

structure Facts (C : Ctx) (ops : Array Oper) (pr : List (List Nat)) (i : Nat) (h : Bool) (f : Option (Pos × AO)) (v : AV) (s s' : DS) : Prop where
  done : s'.done = i :: s.done
  ls : s'.ls = .cons v s.ls
  fr : s'.fr = setDst s.fr (farDst C (dstOf ops i)) v
  hvs : s'.hvs = if h then i :: s.hvs else s.hvs
  dst : dstOk C (namesOf ops s.done) (dstOf ops i) = true
  op : ∃ o, ops[i]? = some o ∧ placed ops pr i o s.done = true
  heavy : h = true → s.done.all (pr.getD i []).contains = true ∧ f = none ∧ s'.Hs = s.H :: s.Hs
  none : f = none → s'.R = s.R ∧ (h = false → s'.Hs = s.Hs)
  some : ∀ q o, f = some (q, o) → s.R = q :: s'.R ∧ s'.Hs = putAll q o s.Hs
  mem : h = false → s'.H = addF s.H f

theorem StepD.facts {x : Option Nat} {i : Nat} {h : Bool} {f : Option (Pos × AO)} {v : AV} {s s' : DS} (k : StepD P C ops pr call x i h f v s s') : Facts C ops pr i h f v s s' := by
  cases k with
  | @skip o _ _ _ _ A hw hh =>
    have e := A.op
    have hd : dstOf ops i = o.dst := by unfold dstOf; rw [e]; rfl
    exact ⟨rfl, rfl, by rw [hd], rfl, by rw [hd]; exact A.dst, ⟨_, e, A.placed⟩, fun h1 => ⟨hh h1, rfl, by simp [h1]⟩, fun _ => ⟨rfl, fun h1 => by simp [h1]⟩, fun q o h => (by cases h), fun _ => rfl⟩
  | @heavy o _ _ _ _ _ A hc hw hh hev =>
    have e := A.op
    have hd : dstOf ops i = o.dst := by unfold dstOf; rw [e]; rfl
    exact ⟨rfl, rfl, by rw [hd], rfl, by rw [hd]; exact A.dst, ⟨_, e, A.placed⟩, fun h1 => ⟨hh, rfl, rfl⟩, fun _ => ⟨rfl, fun h1 => (by cases h1)⟩, fun q o h => (by cases h), fun h1 => by cases h1⟩
  | @light o _ _ _ _ _ A hc hw hl hev hb =>
    have e := A.op
    have hd : dstOf ops i = o.dst := by unfold dstOf; rw [e]; rfl
    exact ⟨rfl, rfl, by rw [hd], rfl, by rw [hd]; exact A.dst, ⟨_, e, A.placed⟩, fun h1 => (by cases h1), fun _ => ⟨rfl, fun h1 => rfl⟩, fun q o h => (by cases h), fun _ => rfl⟩
  | @float o _ _ _ _ _ _ _ _ A hc hw hf hR hev hF =>
    have e := A.op
    have hd : dstOf ops i = o.dst := by unfold dstOf; rw [e]; rfl
    exact ⟨rfl, rfl, by rw [hd], rfl, by rw [hd]; exact A.dst, ⟨_, e, A.placed⟩, fun h1 => (by cases h1), fun h => (by cases h), fun q o h => (by cases h; exact ⟨hR, rfl⟩), fun _ => rfl⟩

  | @blocked o _ _ _ _ A hb hh =>
    have e := A.op
    have hd : dstOf ops i = o.dst := by unfold dstOf; rw [e]; rfl
    exact ⟨rfl, rfl, by rw [hd], rfl, by rw [hd]; exact A.dst, ⟨_, e, A.placed⟩, fun h1 => ⟨hh h1, rfl, by simp [h1]⟩, fun _ => ⟨rfl, fun h1 => by simp [h1]⟩, fun q o h => (by cases h), fun _ => rfl⟩

/-! What 'placed' says. -/
theorem placed_spec {i : Nat} {o : Oper} {done : List Nat} (h : placed ops pr i o done = true) :
    i ∉ done ∧ (∀ e ∈ o.after, Region.binds .any e = true → e.on ∈ pr.getD i []) ∧
    (∀ j ∈ pr.getD i [], (∃ e ∈ o.after, Region.binds .any e = true ∧ e.on = j) ∨ ∃ e ∈ o.after, Region.binds .any e = true ∧ j ∈ pr.getD e.on []) ∧
    (∀ j ∈ pr.getD i [], j ∈ done) ∧ (∀ j ∈ done, j ∈ pr.getD i [] ∨ ∃ x, ops[j]? = some x ∧ x.apart ops o = true) := by
  unfold placed at h
  simp only [Bool.and_eq_true, Bool.not_eq_true', List.all_eq_true, Bool.or_eq_true, List.any_eq_true] at h
  obtain ⟨⟨⟨⟨h1, h2⟩, h3⟩, h4⟩, h5⟩ := h
  refine ⟨?_, ?_, ?_, ?_, ?_⟩
  · intro hm
    have : done.contains i = true := List.contains_iff_mem.2 hm
    rw [h1] at this; cases this
  · intro e he hb
    exact List.contains_iff_mem.1 (h2 e.on (List.mem_map.2 ⟨e, List.mem_filter.2 ⟨by simpa using he, hb⟩, rfl⟩))
  · intro j hj
    rcases h3 j hj with h | ⟨d, hd, hm⟩
    · obtain ⟨e, he, rfl⟩ := List.mem_map.1 (List.contains_iff_mem.1 h)
      obtain ⟨he1, he2⟩ := List.mem_filter.1 he
      exact .inl ⟨e, by simpa using he1, he2, rfl⟩
    · obtain ⟨e, he, rfl⟩ := List.mem_map.1 hd
      obtain ⟨he1, he2⟩ := List.mem_filter.1 he
      exact .inr ⟨e, by simpa using he1, he2, List.contains_iff_mem.1 hm⟩
  · intro j hj
    exact List.contains_iff_mem.1 (h4 j hj)
  · intro j hj
    rcases h5 j hj with h | h
    · exact .inl (List.contains_iff_mem.1 h)
    · right
      split at h
      · rename_i x hx; exact ⟨x, hx, h⟩
      · cases h

structure Way (P : Program) (C : Ctx) (ops : Array Oper) (pr : List (List Nat)) (call : Nat → AV → Heap → Option (CR × Heap)) (x : Option Nat) (n : Nat) (st : Nat → DS) (id : Nat → Nat) (h : Nat → Bool) (f : Nat → Option (Pos × AO)) (vl : Nat → AV) : Prop where
  step : ∀ p, p < n → StepD P C ops pr call x (id p) (h p) (f p) (vl p) (st p) (st (p + 1))
  d0 : (st 0).done = []
  h0 : (st 0).hvs = []
  s0 : (st 0).Hs = []
  l0 : (st 0).ls = .nil
  nd : (st 0).R.Nodup
  all : (List.range ops.size).all (st n).done.contains = true

variable {x : Option Nat} {n : Nat} {st : Nat → DS} {id : Nat → Nat} {h : Nat → Bool} {f : Nat → Option (Pos × AO)} {vl : Nat → AV}

section

theorem Way.facts (W : Way P C ops pr call x n st id h f vl) {p : Nat} (hp : p < n) : Facts C ops pr (id p) (h p) (f p) (vl p) (st p) (st (p + 1)) := (W.step p hp).facts

theorem Way.mem (W : Way P C ops pr call x n st id h f vl) : ∀ {p : Nat}, p ≤ n → ∀ j, j ∈ (st p).done ↔ ∃ q, q < p ∧ id q = j := by
  intro p
  induction p with
  | zero => intro _ j; rw [W.d0]; simp
  | succ p ih =>
    intro hp j
    rw [(W.facts (by omega)).done, List.mem_cons, ih (by omega)]
    constructor
    · rintro (e | ⟨q, h1, h2⟩)
      · exact ⟨p, by omega, e.symm⟩
      · exact ⟨q, by omega, h2⟩
    · rintro ⟨q, h1, h2⟩
      by_cases e : q = p
      · subst e; exact .inl h2.symm
      · exact .inr ⟨q, by omega, h2⟩

theorem Way.inj (W : Way P C ops pr call x n st id h f vl) {p q : Nat} (hp : p < n) (hq : q < n) (e : id p = id q) : p = q := by
  have key : ∀ {a b : Nat}, a < b → b < n → id a ≠ id b := by
    intro a b hab hb e
    obtain ⟨o, _, ho⟩ := (W.facts hb).op
    exact (placed_spec ho).1 ((W.mem (by omega) _).2 ⟨a, hab, e⟩)
  rcases Nat.lt_trichotomy p q with h | h | h
  · exact (key h hq e).elim
  · exact h
  · exact (key h hp e.symm).elim

theorem Way.onto (W : Way P C ops pr call x n st id h f vl) {i : Nat} (hi : i < ops.size) : ∃ p, p < n ∧ id p = i := by
  have := W.all
  rw [List.all_eq_true] at this
  exact (W.mem (Nat.le_refl n) i).1 (List.contains_iff_mem.1 (this i (List.mem_range.2 hi)))

theorem Way.dst_ne (W : Way P C ops pr call x n st id h f vl) {p q : Nat} (hqp : q < p) (hp : p < n) {d : Tmp} (hd : dstOf ops (id q) = some d) : dstOf ops (id p) ≠ some d := by
  intro e
  have h1 := (W.facts hp).dst
  rw [e] at h1
  have h2 := (dstOk_lt h1).2
  unfold nameAt at h2
  rw [List.idxOf?_eq_none_iff] at h2
  apply h2
  exact List.mem_map.2 ⟨id q, (W.mem (by omega) _).2 ⟨q, hqp, rfl⟩, hd⟩

theorem Way.nth (W : Way P C ops pr call x n st id h f vl) : ∀ {p : Nat}, p ≤ n → ∀ k j, (st p).done[k]? = some j → ∃ q, q < p ∧ id q = j ∧ ∀ v, (st p).ls.nth k = some v → v = vl q := by
  intro p
  induction p with
  | zero => intro _ k j hk; rw [W.d0] at hk; simp at hk
  | succ p ih =>
    intro hp k j hk
    have F := W.facts (p := p) (by omega)
    rw [F.done] at hk
    rw [F.ls]
    cases k with
    | zero =>
      simp at hk
      exact ⟨p, by omega, hk, fun v hv => by simp [AV.nth] at hv; exact hv.symm⟩
    | succ k =>
      simp only [List.getElem?_cons_succ] at hk
      obtain ⟨q, h1, h2, h3⟩ := ih (by omega) k j hk
      exact ⟨q, by omega, h2, fun v hv => h3 v (by simpa [AV.nth] using hv)⟩

theorem Way.dlAt (W : Way P C ops pr call x n st id h f vl) : ∀ {p : Nat}, p ≤ n → dl (st p).fr = dl (st 0).fr := by
  intro p
  induction p with
  | zero => intro _; rfl
  | succ p ih =>
    intro hp
    have F := W.facts (p := p) (by omega)
    rw [F.fr, dl_setDst]
    exact ih (by omega)
theorem Way.frAt (W : Way P C ops pr call x n st id h f vl) : ∀ {p : Nat}, p ≤ n → ∀ t v, C.far t = true → (st p).fr.get (key (t + 1)) = some v →
    (∃ q, q < p ∧ dstOf ops (id q) = some t ∧ v = vl q) ∨ ((∀ q, q < p → dstOf ops (id q) ≠ some t) ∧ (st 0).fr.get (key (t + 1)) = some v) := by
  intro p
  induction p with
  | zero => intro _ t v _ hv; exact .inr ⟨fun q hq => by omega, hv⟩
  | succ p ih =>
    intro hp t v ht hv
    have F := W.facts (p := p) (by omega)
    rw [F.fr] at hv
    by_cases e : dstOf ops (id p) = some t
    · rw [e] at hv
      simp only [farDst, ht, if_true, setDst, Tr.get_set_same] at hv
      cases hv
      exact .inl ⟨p, by omega, e, rfl⟩
    · have hv' : (st p).fr.get (key (t + 1)) = some v := by
        cases hd : dstOf ops (id p) with
        | none => rw [hd] at hv; exact hv
        | some d =>
          rw [hd] at hv
          simp only [farDst] at hv
          split at hv
          · simp only [setDst] at hv
            rwa [Tr.get_set_ne (fun h => e (by rw [hd]; have := key_inj h; simp at this; rw [this]))] at hv
          · exact hv
      rcases ih (by omega) t v ht hv' with ⟨q, h1, h2, h3⟩ | ⟨h1, h2⟩
      · exact .inl ⟨q, by omega, h2, h3⟩
      · refine .inr ⟨fun q hq => ?_, h2⟩
        by_cases e2 : q = p
        · subst e2; exact e
        · exact h1 q (by omega)

/-! The names that are kept. -/
theorem Way.suffix (W : Way P C ops pr call x n st id h f vl) : ∀ {m p : Nat}, m ≤ p → p ≤ n → ∃ l, (st m).R = l ++ (st p).R := by
  intro m p hmp
  induction p with
  | zero => intro _; obtain rfl : m = 0 := (by omega); exact ⟨[], rfl⟩
  | succ p ih =>
    intro hp
    by_cases e : m = p + 1
    · subst e; exact ⟨[], rfl⟩
    · obtain ⟨l, hl⟩ := ih (by omega) (by omega)
      have F := W.facts (p := p) (by omega)
      cases hf : f p with
      | none => exact ⟨l, by rw [(F.none hf).1]; exact hl⟩
      | some po =>
        obtain ⟨q, o⟩ := po
        exact ⟨l ++ [q], by rw [hl, (F.some q o hf).1]; simp⟩

theorem Way.nodup (W : Way P C ops pr call x n st id h f vl) {p : Nat} (hp : p ≤ n) : (st p).R.Nodup := by
  obtain ⟨l, hl⟩ := W.suffix (Nat.zero_le p) hp
  have := W.nd
  rw [hl] at this
  exact (List.nodup_append.1 this).2.1

theorem Way.name_mem (W : Way P C ops pr call x n st id h f vl) {m r : Nat} (hmr : m ≤ r) (hr : r < n) {q : Pos} {o : AO} (hf : f r = some (q, o)) : q ∈ (st m).R := by
  obtain ⟨l, hl⟩ := W.suffix hmr (Nat.le_of_lt hr)
  rw [hl, ((W.facts hr).some q o hf).1]
  simp

theorem Way.name_out (W : Way P C ops pr call x n st id h f vl) {r p : Nat} (hrp : r < p) (hp : p ≤ n) {q : Pos} {o : AO} (hf : f r = some (q, o)) : q ∉ (st p).R := by
  obtain ⟨l, hl⟩ := W.suffix (m := r + 1) hrp hp
  have h1 := W.nodup (p := r) (by omega)
  rw [((W.facts (by omega)).some q o hf).1, hl] at h1
  intro hm
  simp at h1
  exact h1.1.2 hm

theorem Way.name_inj (W : Way P C ops pr call x n st id h f vl) {r p : Nat} (hr : r < n) (hp : p < n) {q : Pos} {o o' : AO} (h1 : f r = some (q, o)) (h2 : f p = some (q, o')) : r = p := by
  rcases Nat.lt_trichotomy r p with h | h | h
  · exact (W.name_out h (by omega) h1 (W.name_mem (Nat.le_refl p) hp h2)).elim
  · exact h
  · exact (W.name_out h (by omega) h2 (W.name_mem (Nat.le_refl r) hr h1)).elim

theorem Way.look_name (W : Way P C ops pr call x n st id h f vl) {m p : Nat} (hmp : m ≤ p) (hp : p < n) {q : Pos} {o : AO} (hf : f p = some (q, o)) : look f q m (n - m) = some o := by
  cases hl : look f q m (n - m) with
  | none => exact (look_ne f q (n - m) m p o hmp (by omega) hf hl).elim
  | some o' =>
    obtain ⟨r, h1, h2, h3⟩ := look_some f q _ _ _ hl
    have := W.name_inj (by omega) hp h3 hf
    subst this
    rw [hf] at h3
    cases h3
    rfl

/-! States of memory. -/
/-- The memory in which nothing heavy behind the place m was done, and all blocks that are made up to p. -/
def EAt (st : Nat → DS) (f : Nat → Option (Pos × AO)) (m p : Nat) : Heap := adds f m (p - m) (st m).H

theorem EAt_succ {m p : Nat} (hmp : m ≤ p) : EAt st f m (p + 1) = addF (EAt st f m p) (f p) := by
  unfold EAt
  rw [show p + 1 - m = (p - m) + 1 by omega, adds_add]
  simp only [adds]
  rw [show m + (p - m) = p by omega]

theorem Way.quiet (W : Way P C ops pr call x n st id h f vl) : ∀ {m p : Nat}, m ≤ p → p ≤ n → (∀ r, m ≤ r → r < p → h r = false) → EAt st f m p = (st p).H := by
  intro m p hmp
  induction p with
  | zero => intro _ _; obtain rfl : m = 0 := (by omega); rfl
  | succ p ih =>
    intro hp hq
    by_cases e : m = p + 1
    · subst e; simp [EAt, adds]
    · rw [EAt_succ (by omega), ih (by omega) (by omega) fun r h1 h2 => hq r h1 (by omega)]
      exact ((W.facts (p := p) (by omega)).mem (hq p (by omega) (by omega))).symm

theorem Way.elder (W : Way P C ops pr call x n st id h f vl) : ∀ {m p : Nat}, m ≤ p → p ≤ n → ∃ pre, (st p).hvs = pre ++ (st m).hvs ∧ (∀ i ∈ pre, ∃ r, m ≤ r ∧ r < p ∧ h r = true ∧ id r = i) ∧
    ((pre = [] ∧ EAt st f m p = (st p).H) ∨ ∃ c, pre.length = c + 1 ∧ (st p).Hs[c]? = some (EAt st f m p)) := by
  intro m p hmp
  induction p with
  | zero => intro _; obtain rfl : m = 0 := (by omega); exact ⟨[], rfl, fun i hi => (by simp at hi), .inl ⟨rfl, rfl⟩⟩
  | succ p ih =>
    intro hp
    by_cases e : m = p + 1
    · subst e; exact ⟨[], rfl, fun i hi => (by simp at hi), .inl ⟨rfl, by simp [EAt, adds]⟩⟩
    · obtain ⟨pre, h1, h2, h3⟩ := ih (by omega) (by omega)
      have F := W.facts (p := p) (by omega)
      have hE := EAt_succ (st := st) (f := f) (m := m) (p := p) (by omega)
      cases hh : h p with
      | true =>
        obtain ⟨_, k2, k3⟩ := F.heavy hh
        rw [k2] at hE
        refine ⟨id p :: pre, by rw [F.hvs, hh, if_pos rfl, h1]; rfl, ?_, ?_⟩
        · intro i hi
          rcases List.mem_cons.1 hi with rfl | hi
          · exact ⟨p, by omega, by omega, hh, rfl⟩
          · obtain ⟨r, a, b, c, d⟩ := h2 i hi
            exact ⟨r, a, by omega, c, d⟩
        · right
          rcases h3 with ⟨rfl, k4⟩ | ⟨c, k4, k5⟩
          · exact ⟨0, rfl, by rw [k3, hE]; simp [addF, k4]⟩
          · exact ⟨c + 1, by simp [k4], by rw [k3, hE]; simpa [addF] using k5⟩
      | false =>
        refine ⟨pre, by rw [F.hvs, hh]; simpa using h1, ?_, ?_⟩
        · intro i hi
          obtain ⟨r, a, b, c, d⟩ := h2 i hi
          exact ⟨r, a, by omega, c, d⟩
        · rcases h3 with ⟨rfl, k4⟩ | ⟨c, k4, k5⟩
          · exact .inl ⟨rfl, by rw [hE, k4, F.mem hh]⟩
          · right
            refine ⟨c, k4, ?_⟩
            rw [hE]
            cases hf : f p with
            | none => rw [(F.none hf).2 hh]; exact k5
            | some po =>
              obtain ⟨q, o⟩ := po
              rw [(F.some q o hf).2]
              have : ∀ (Hs : List Heap) (c : Nat) (E : Heap), Hs[c]? = some E → (putAll q o Hs)[c]? = some (E.put q o) := by
                intro Hs
                induction Hs with
                | nil => intro c E h; simp at h
                | cons H Hs ih =>
                  intro c E h
                  cases c with
                  | zero => simp at h; subst h; rfl
                  | succ c => simpa [putAll] using ih c E (by simpa using h)
              exact this _ _ _ k5

end
end
end Go.Dx
set_option linter.unusedSimpArgs false
set_option linter.unusedVariables false
set_option linter.unusedSectionVars false
namespace Go.Dx

/-- Is an operation among those that were done? -/
def Lst (listed : Array Bool) (j : Nat) : Prop := listed.getD j false = true

instance (listed : Array Bool) (j : Nat) : Decidable (Lst listed j) := by unfold Lst; infer_instance

theorem lst_not {listed : Array Bool} {j : Nat} (h : listed.getD j true = false) : ¬Lst listed j ∧ j < listed.size := by
  unfold Lst
  rcases Nat.lt_or_ge j listed.size with hl | hl
  · simp [hl] at h ⊢; exact h
  · simp [Array.getElem?_eq_none hl] at h

theorem lst_of_not {listed : Array Bool} {j : Nat} (hj : j < listed.size) (h : ¬Lst listed j) : listed.getD j true = false := by
  unfold Lst at h
  simp [hj] at h ⊢
  exact h

theorem lst_set {listed : Array Bool} {i j : Nat} (hi : i < listed.size) : Lst (listed.setIfInBounds i true) j ↔ j = i ∨ Lst listed j := by
  unfold Lst
  by_cases e : i = j
  · subst e; simp [hi]
  · rw [getD_set_ne false e]
    constructor
    · exact .inr
    · rintro (h | h)
      · exact absurd h.symm e
      · exact h

theorem idx_congr {F G : Nat → Option Tmp} {t : Tmp} : ∀ {l : List Nat}, (∀ j ∈ l, (F j = some t ↔ G j = some t)) → (l.map F).idxOf? (some t) = (l.map G).idxOf? (some t) := by
  intro l
  induction l with
  | nil => intro _; rfl
  | cons j l ih =>
    intro hh
    simp only [List.map_cons, List.idxOf?_cons]
    rw [ih fun k hk => hh k (by simp [hk])]
    have h1 := hh j (by simp)
    by_cases e : F j = some t
    · rw [e, h1.1 e]
    · have e2 : ¬G j = some t := fun h => e (h1.2 h)
      have b1 : (F j == some t) = false := by simpa using e
      have b2 : (G j == some t) = false := by simpa using e2
      rw [b1, b2]

theorem idx_get {t : Option Tmp} : ∀ {l : List (Option Tmp)} {k : Nat}, l.idxOf? t = some k → l[k]? = some t := by
  intro l
  induction l with
  | nil => intro k h; simp at h
  | cons x l ih =>
    intro k h
    rw [List.idxOf?_cons] at h
    split at h
    · rename_i e
      cases h
      have : x = t := by simpa using e
      simp [this]
    · obtain ⟨j, hj, rfl⟩ := Option.map_eq_some_iff.1 h
      simpa using ih hj

section
variable {P : Program} {C : Ctx} {ops : Array Oper} {pr : List (List Nat)} {call : Nat → AV → Heap → Option (CR × Heap)}
variable {x : Option Nat} {n : Nat} {st : Nat → DS} {id : Nat → Nat} {h : Nat → Bool} {f : Nat → Option (Pos × AO)} {vl : Nat → AV}
variable {ρ0 ρ : Ren} {H0 : Heap} {w0 w : World} {a0 a : Act} {listed : Array Bool} {m : Nat}

structure Inv (P : Program) (C : Ctx) (ops : Array Oper) (pr : List (List Nat)) (x : Option Nat) (n : Nat) (st : Nat → DS) (id : Nat → Nat) (h : Nat → Bool) (f : Nat → Option (Pos × AO)) (vl : Nat → AV) (ρ0 : Ren) (H0 : Heap) (w0 : World) (a0 : Act)
    (listed : Array Bool) (a : Act) (w : World) (ρ : Ren) (m : Nat) : Prop where
  sz : listed.size = ops.size
  mn : m ≤ n
  low : ∀ p, p < m → Lst listed (id p)
  high : ∀ p, m ≤ p → p < n → h p = true → ¬Lst listed (id p)
  closed : ∀ j, Lst listed j → ∀ k ∈ pr.getD j [], Lst listed k
  rel : HRel P C.ng ρ (EAt st f m n) w
  stp : Step ρ0 H0 w0 ρ (EAt st f m n) w
  vals : ∀ p, p < n → Lst listed (id p) → ∀ d, dstOf ops (id p) = some d → ∃ x, a.tmps[d]? = some x ∧ RX ρ (vl p) [x]
  rest : ∀ t : Tmp, (∀ p, p < n → Lst listed (id p) → dstOf ops (id p) ≠ some t) → a.tmps[t]? = a0.tmps[t]?
  tsz : a.tmps.size = a0.tmps.size
  dfs : a.defers = a0.defers
  tocome : ∀ p q o, p < n → f p = some (q, o) → ¬Lst listed (id p) → ρ q = none
  names : ∀ q ∈ (st m).R, q.num < (st m).H.next.num ∧ (st m).H.live q = false ∧ H0.next.num ≤ q.num
  nobad : ∀ j, Lst listed j → ¬Bad pr x j

theorem Inv.namesAt (I : Inv P C ops pr x n st id h f vl ρ0 H0 w0 a0 listed a w ρ m) (W : Way P C ops pr call x n st id h f vl) {p : Nat} (hmp : m ≤ p) (hp : p ≤ n) : ∀ q ∈ (st p).R, q.num < (EAt st f m p).next.num ∧ (EAt st f m p).live q = false ∧ H0.next.num ≤ q.num := by
  intro q hq
  obtain ⟨l, hl⟩ := W.suffix hmp hp
  obtain ⟨h1, h2, h3⟩ := I.names q (by rw [hl]; simp [hq])
  refine ⟨by unfold EAt; rw [adds_next]; exact h1, ?_, h3⟩
  have hg : (EAt st f m p).get q = (st m).H.get q := by
    unfold EAt
    rw [adds_get]
    cases hk : look f q m (p - m) with
    | none => rfl
    | some o =>
      obtain ⟨r, k1, k2, k3⟩ := look_some f q _ _ _ hk
      exact (W.name_out (r := r) (p := p) (by omega) hp k3 hq).elim
  rw [live_congr hg]
  exact h2

theorem Inv.over (I : Inv P C ops pr x n st id h f vl ρ0 H0 w0 a0 listed a w ρ m) (W : Way P C ops pr call x n st id h f vl) {p : Nat} (hmp : m ≤ p) (hp : p ≤ n) : Over (EAt st f m p) (fun q => look f q p (n - p)) (EAt st f m n) where
  get := fun q => by
    have : EAt st f m n = adds f p (n - p) (EAt st f m p) := by
      unfold EAt
      rw [show n - m = (p - m) + (n - p) by omega, adds_add]
      congr 1
      omega
    rw [this, adds_get]
  next := by unfold EAt; rw [adds_next, adds_next]
  free := fun q o hq => by
    obtain ⟨r, k1, k2, k3⟩ := look_some f q _ _ _ hq
    have hm := W.name_mem (m := p) (r := r) k1 (by omega) k3
    obtain ⟨h1, h2, _⟩ := I.namesAt W hmp hp q hm
    exact ⟨h2, h1⟩

theorem Inv.env (I : Inv P C ops pr x n st id h f vl ρ0 H0 w0 a0 listed a w ρ m) (W : Way P C ops pr call x n st id h f vl) (hF0 : FRel C ρ0 (st 0).fr a0.tmps) {p : Nat} (hp : p < n) (hX : ¬Lst listed (id p)) (hpr : ∀ k ∈ pr.getD (id p) [], Lst listed k) {E : Heap} (hE : HRel P C.ng ρ E w) {o : Oper} (ho : ops[id p]? = some o) :
    ∃ C' ns', C'.ng = C.ng ∧ Env P C' ρ ns' (st p).ls (st p).fr a E w ∧ guardP ops ns' o.guard = guardP ops (namesOf ops (st p).done) o.guard ∧ opP P C' ns' o.op = opP P C (namesOf ops (st p).done) o.op := by
  classical
  obtain ⟨o', ho', hpl'⟩ := (W.facts hp).op
  rw [ho] at ho'
  cases ho'
  have hpl := placed_spec hpl'
  -- what it looks at, and was done ahead in the one order, was done
  have seen : ∀ t ∈ o.looksAt ops, ∀ j ∈ (st p).done, dstOf ops j = some t → Lst listed j := by
    intro t ht j hj hd
    rcases hpl.2.2.2.2 j hj with hk | ⟨x, hx, hap⟩
    · exact hpr j hk
    · have hxd : x.dst = some t := by unfold dstOf at hd; rw [hx] at hd; exact hd
      exact ((Oper.apart_spec hap).1 t hxd ht).elim
  let ns' : List (Option Tmp) := (st p).done.map fun j => if Lst listed j then dstOf ops j else none
  let far' : Nat → Bool := fun t => C.far t && decide (∀ q, q < n → (Lst listed (id q) ∨ q < p) → dstOf ops (id q) ≠ some t)
  have hname : ∀ t ∈ o.looksAt ops, nameAt ns' t = nameAt (namesOf ops (st p).done) t := by
    intro t ht
    unfold nameAt
    refine idx_congr fun j hj => ?_
    by_cases e : Lst listed j
    · rw [if_pos e]; exact Iff.rfl
    · rw [if_neg e]
      constructor
      · intro h; cases h
      · intro h; exact (e (seen t ht j hj h)).elim
  have hopd : ∀ x ∈ o.op.operands, opd { C with far := far' } ns' x = opd C (namesOf ops (st p).done) x := by
    intro x hx
    cases x with
    | tmp t =>
      have ht : t ∈ o.looksAt ops := List.mem_append_left _ (List.mem_filterMap.2 ⟨.tmp t, by simpa using hx, rfl⟩)
      simp only [opd]
      rw [hname t ht]
      cases hn : nameAt (namesOf ops (st p).done) t with
      | some j => rfl
      | none =>
        have : far' t = C.far t := by
          have : (∀ q, q < n → (Lst listed (id q) ∨ q < p) → dstOf ops (id q) ≠ some t) := by
            intro q hq hor hd
            rcases Nat.lt_trichotomy q p with hlt | heq | hgt
            · unfold nameAt at hn
              rw [List.idxOf?_eq_none_iff] at hn
              exact hn (List.mem_map.2 ⟨id q, (W.mem (by omega) _).2 ⟨q, hlt, rfl⟩, hd⟩)
            · subst heq
              rcases hor with h | h
              · exact hX h
              · omega
            · rcases hor with hl | h
              · obtain ⟨oq, hoq, hplq⟩ := (W.facts hq).op
                rcases (placed_spec hplq).2.2.2.2 (id p) ((W.mem (by omega) _).2 ⟨p, hgt, rfl⟩) with hk | ⟨x, hx', hap⟩
                · exact hX (I.closed _ hl _ hk)
                · rw [ho] at hx'
                  cases hx'
                  have hqd : oq.dst = some t := by unfold dstOf at hd; rw [hoq] at hd; exact hd
                  exact (Oper.apart_spec hap).2.2 t hqd ht
              · omega
          show (C.far t && decide _) = C.far t
          rw [decide_eq_true this, Bool.and_true]
        simp only [this]
    | const v => rfl
    | global g => rfl
    | func g => rfl
  refine ⟨{ C with far := far' }, ns', rfl, ⟨⟨?_, ?_⟩, ?_, hE⟩, ?_, opP_congr hopd⟩
  · rw [I.tsz]; exact hF0.size
  · intro t v ht hv
    have ht' : (C.far t && decide (∀ q, q < n → (Lst listed (id q) ∨ q < p) → dstOf ops (id q) ≠ some t)) = true := ht
    simp only [Bool.and_eq_true, decide_eq_true_eq] at ht'
    rcases W.frAt (Nat.le_of_lt hp) t v ht'.1 hv with ⟨q, h1, h2, _⟩ | ⟨h1, h2⟩
    · exact (ht'.2 q (by omega) (.inr h1) h2).elim
    · obtain ⟨x, hx, hr⟩ := hF0.far t v ht'.1 h2
      refine ⟨x, ?_, hr.mono I.stp.ext⟩
      rw [I.rest t fun q hq hl => ht'.2 q hq (.inl hl)]
      exact hx
  · intro t k v hn hv
    have hk := idx_get hn
    rw [List.getElem?_map] at hk
    obtain ⟨j, hj, e⟩ := Option.map_eq_some_iff.1 hk
    obtain ⟨q, h1, h2, h3⟩ := W.nth (Nat.le_of_lt hp) k j hj
    have h3 := h3 v hv
    by_cases e2 : Lst listed j
    · rw [if_pos e2] at e
      subst h2
      obtain ⟨x, hx, hr⟩ := I.vals q (by omega) e2 t e
      exact ⟨x, hx, by rw [h3]; exact hr⟩
    · rw [if_neg e2] at e; cases e
  · cases hg : o.guard with
    | none => rfl
    | some gb =>
      obtain ⟨j, b⟩ := gb
      simp only [guardP]
      cases hd : (ops[j]?).bind (·.dst) with
      | none => rfl
      | some d =>
        have : d ∈ o.looksAt ops := List.mem_append_right _ (by rw [hg]; simp [hd])
        simp only [hname d this]

/-- What is to be shown, when one more was done. -/
theorem Inv.next (I : Inv P C ops pr x n st id h f vl ρ0 H0 w0 a0 listed a w ρ m) (W : Way P C ops pr call x n st id h f vl) {p : Nat} (hp : p < n) (hF0 : FRel C ρ0 (st 0).fr a0.tmps) (hX : ¬Lst listed (id p)) (hpr : ∀ k ∈ pr.getD (id p) [], Lst listed k) (hx0 : x ≠ some (id p)) {o : Oper} (ho : ops[id p]? = some o) {y : Value} {ρ' : Ren} {w' : World} {m' : Nat}
    (hext : Ext ρ ρ') (hx : RX ρ' (vl p) [y]) (hrel : HRel P C.ng ρ' (EAt st f m' n) w') (hstp : Step ρ0 H0 w0 ρ' (EAt st f m' n) w') (hm' : m' ≤ n) (hlow : ∀ q, q < m' → Lst listed (id q) ∨ q = p)
    (hhigh : ∀ q, m' ≤ q → q < n → h q = true → ¬Lst listed (id q) ∧ q ≠ p) (htc : ∀ q nm ob, q < n → f q = some (nm, ob) → ¬Lst listed (id q) → q ≠ p → ρ' nm = none)
    (hnm : ∀ q ∈ (st m').R, q.num < (st m').H.next.num ∧ (st m').H.live q = false ∧ H0.next.num ≤ q.num) :
    Inv P C ops pr x n st id h f vl ρ0 H0 w0 a0 (listed.setIfInBounds (id p) true) (a.put o.dst y) w' ρ' m' := by
  have hlt : id p < listed.size := by
    rw [I.sz]
    exact (Array.getElem?_eq_some_iff.1 ho).1
  have hdst : dstOf ops (id p) = o.dst := by unfold dstOf; rw [ho]; rfl
  have hset : ∀ q, q < n → (Lst (listed.setIfInBounds (id p) true) (id q) ↔ q = p ∨ Lst listed (id q)) := by
    intro q hq
    rw [lst_set hlt]
    constructor
    · rintro (e | e)
      · exact .inl (W.inj hq hp e)
      · exact .inr e
    · rintro (e | e)
      · exact .inl (by rw [e])
      · exact .inr e
  have hdlt : ∀ d, o.dst = some d → d < a.tmps.size := by
    intro d hd
    have h1 := (W.facts hp).dst
    rw [hdst, hd] at h1
    rw [I.tsz]
    exact Nat.lt_of_lt_of_le (dstOk_lt h1).1 hF0.size
  refine ⟨by rw [Array.size_setIfInBounds]; exact I.sz, hm', ?_, ?_, ?_, hrel, hstp, ?_, ?_, by rw [put_size]; exact I.tsz, by rw [put_defers]; exact I.dfs, ?_, hnm, ?_⟩
  · intro q hq
    rw [hset q (by omega)]
    rcases hlow q hq with h | h
    · exact .inr h
    · exact .inl h
  · intro q h1 h2 h3 h4
    rw [hset q h2] at h4
    obtain ⟨k1, k2⟩ := hhigh q h1 h2 h3
    rcases h4 with h4 | h4
    · exact k2 h4
    · exact k1 h4
  · intro j hj k hk
    rw [lst_set hlt] at hj ⊢
    rcases hj with rfl | hj
    · exact .inr (hpr k hk)
    · exact .inr (I.closed j hj k hk)
  · intro q hq hl d hd
    rw [hset q hq] at hl
    by_cases e : q = p
    · subst e
      rw [hdst] at hd
      rw [hd]
      exact ⟨y, put_tmps_eq (hdlt d hd), hx⟩
    · have hl := hl.resolve_left e
      obtain ⟨y, hy, hr⟩ := I.vals q hq hl d hd
      refine ⟨y, ?_, hr.mono hext⟩
      rw [put_tmps_ne ?_]
      · exact hy
      · rw [← hdst]
        rcases Nat.lt_trichotomy q p with hh | hh | hh
        · exact W.dst_ne hh hp hd
        · exact (e hh).elim
        · intro e2; exact W.dst_ne hh hq e2 hd
  · intro t ht
    rw [put_tmps_ne]
    · exact I.rest t fun q hq hl => ht q hq ((hset q hq).2 (.inr hl))
    · rw [← hdst]
      exact ht p hp ((hset p hp).2 (.inl rfl))
  · intro q nm ob hq hf hl
    rw [hset q hq] at hl
    exact htc q nm ob hq hf (fun h => hl (.inr h)) (fun h => hl (.inl h))
  · intro j hj hb
    rw [lst_set hlt] at hj
    rcases hj with rfl | hj
    · cases hb with
      | self e => exact hx0 e
      | step hm hb => exact I.nobad _ (hpr _ hm) hb
    · exact I.nobad j hj hb

end
end Go.Dx
set_option linter.unusedSimpArgs false
set_option linter.unusedVariables false
set_option linter.unusedSectionVars false
namespace Go.Dx

section
variable {pl : PL}
variable {P : Program} {C : Ctx} {ops : Array Oper} {pr : List (List Nat)} {call : Nat → AV → Heap → Option (CR × Heap)}
variable {x : Option Nat} {n : Nat} {st : Nat → DS} {id : Nat → Nat} {h : Nat → Bool} {f : Nat → Option (Pos × AO)} {vl : Nat → AV}
variable {ρ0 ρ : Ren} {H0 : Heap} {w0 w : World} {a0 a : Act} {listed : Array Bool} {m : Nat}

theorem inv_step {ro : Option Nat} (hcall : CallOk P C.ng call) (W : Way P C ops pr call x n st id h f vl) (hF0 : FRel C ρ0 (st 0).fr a0.tmps) {Q : Exit → Act → World → Prop} (I : Inv P C ops pr x n st id h f vl ρ0 H0 w0 a0 listed a w ρ m) {i : Nat} (hi : i ∈ Region.ready .any ops listed)
    {K : Act → World → Prop} (hK : ∀ a' w' ρ' m', Inv P C ops pr x n st id h f vl ρ0 H0 w0 a0 (listed.setIfInBounds i true) a' w' ρ' m' → K a' w')
    (hpan : ∀ p, p < n → id p = i → x = some (id p) → ¬Lst listed (id p) → (∀ k ∈ pr.getD (id p) [], Lst listed k) → wpOpIn (fz ro) 0 P ops Q (id p) K a w) : wpOpIn (fz ro) 0 P ops Q i K a w := by
  obtain ⟨hun, o, ho, hedge⟩ := mem_ready.1 hi
  obtain ⟨hX, hlt⟩ := lst_not hun
  obtain ⟨p, hp, rfl⟩ := W.onto (i := i) (by rw [← I.sz]; exact hlt)
  have Fp := W.facts hp
  obtain ⟨o', ho', hpl'⟩ := Fp.op
  rw [ho] at ho'
  cases ho'
  have hpl := placed_spec hpl'
  have hpr : ∀ k ∈ pr.getD (id p) [], Lst listed k := by
    intro k hk
    rcases hpl.2.2.1 k hk with ⟨e, he, hb, rfl⟩ | ⟨e, he, hb, hk'⟩
    · exact hedge e he hb
    · exact I.closed e.on (hedge e he hb) k hk'
  by_cases hx0 : x = some (id p)
  · exact hpan p hp rfl hx0 hX hpr
  have hmp : m ≤ p := by
    rcases Nat.lt_or_ge p m with h | h
    · exact (hX (I.low p h)).elim
    · exact h
  have hEM := I.rel.sub (I.over W hmp (Nat.le_of_lt hp))
  -- a heavy one: all ahead of it was done, and nothing heavy since
  have hheavy : h p = true → (∀ q, q < p → Lst listed (id q)) ∧ EAt st f m p = (st p).H ∧ f p = none := by
    intro hh
    obtain ⟨h1, h2, _⟩ := Fp.heavy hh
    have hall : ∀ q, q < p → Lst listed (id q) := by
      intro q hq
      rw [List.all_eq_true] at h1
      exact hpr _ (List.contains_iff_mem.1 (h1 (id q) ((W.mem (by omega) _).2 ⟨q, hq, rfl⟩)))
    refine ⟨hall, W.quiet hmp (by omega) ?_, h2⟩
    intro r hr1 hr2
    cases hr : h r with
    | false => rfl
    | true => exact (I.high r hr1 (by omega) hr (hall r hr2)).elim
  -- behind a heavy one
  have heavyNext : h p = true → ∀ {y : Value} {ρ' : Ren} {w' : World}, RX ρ' (vl p) [y] → HRel P C.ng ρ' (st (p + 1)).H w' → Step ρ (EAt st f m p) w ρ' (st (p + 1)).H w' →
      Inv P C ops pr x n st id h f vl ρ0 H0 w0 a0 (listed.setIfInBounds (id p) true) (a.put o.dst y) w' ρ' (p + 1) := by
    intro hh y ρ' w' hx hH hS
    obtain ⟨hall, hE, hf⟩ := hheavy hh
    have hlook : ∀ q, look f q p (n - p) = look f q (p + 1) (n - (p + 1)) := by
      intro q
      rw [show n - p = (n - (p + 1)) + 1 by omega]
      simp only [look, hf]
      cases look f q (p + 1) (n - (p + 1)) <;> rfl
    obtain ⟨c1, c2⟩ := carry (M' := EAt st f (p + 1) n) I.rel hH hS (I.over W hmp (Nat.le_of_lt hp)) (fun q => by rw [hlook]; unfold EAt; rw [adds_get]) (by unfold EAt; rw [adds_next])
    refine I.next W hp hF0 hX hpr hx0 ho hS.ext hx c1 (I.stp.trans c2) (by omega) ?_ ?_ ?_ ?_
    · intro q hq
      by_cases e : q = p
      · exact .inr e
      · exact .inl (hall q (by omega))
    · intro q h1 h2 h3
      exact ⟨I.high q (by omega) h2 h3, by omega⟩
    · intro q nm ob hq hfq hl _
      cases hnm : ρ' nm with
      | none => rfl
      | some K =>
        have h0 := I.tocome q nm ob hq hfq hl
        have h1 := hS.new nm K h0 hnm
        have hpq : p ≤ q := by
          rcases Nat.lt_or_ge q p with h | h
          · exact (hl (hall q h)).elim
          · exact h
        have h2 := (I.namesAt W hmp (Nat.le_of_lt hp) nm (W.name_mem hpq hq hfq)).1
        omega
    · intro q hq
      have hR : (st (p + 1)).R = (st p).R := (Fp.none hf).1
      rw [hR] at hq
      obtain ⟨k1, k2, k3⟩ := I.namesAt W hmp (Nat.le_of_lt hp) q hq
      exact ⟨Nat.lt_of_lt_of_le k1 hS.next, hS.old q k1 k2, k3⟩
  -- behind a light one, or one that was not wanted
  have lightNext : h p = false → f p = none → ∀ {y : Value} {ρ' : Ren} {w' : World}, RX ρ' (vl p) [y] → HRel P C.ng ρ' (EAt st f m p) w' → Step ρ (EAt st f m p) w ρ' (EAt st f m p) w' →
      Inv P C ops pr x n st id h f vl ρ0 H0 w0 a0 (listed.setIfInBounds (id p) true) (a.put o.dst y) w' ρ' m := by
    intro hh hf y ρ' w' hx hH hS
    have hov := I.over W hmp (Nat.le_of_lt hp)
    obtain ⟨c1, c2⟩ := carry (M' := EAt st f m n) I.rel hH hS hov hov.get hov.next
    refine I.next W hp hF0 hX hpr hx0 ho hS.ext hx c1 (I.stp.trans c2) I.mn (fun q hq => .inl (I.low q hq)) ?_ ?_ I.names
    · intro q h1 h2 h3
      refine ⟨I.high q h1 h2 h3, ?_⟩
      intro e
      rw [e, hh] at h3
      cases h3
    · intro q nm ob hq hfq hl hne
      cases hnm : ρ' nm with
      | none => rfl
      | some K =>
        have h0 := I.tocome q nm ob hq hfq hl
        have h1 := hS.new nm K h0 hnm
        have hmq : m ≤ q := by
          rcases Nat.lt_or_ge q m with h | h
          · exact (hl (I.low q h)).elim
          · exact h
        have h2 := (I.names nm (W.name_mem hmq hq hfq)).1
        unfold EAt at h1
        rw [adds_next] at h1
        omega
  have hstep := W.step p hp
  generalize hs' : st (p + 1) = s' at hstep
  generalize hb' : h p = b' at hstep
  generalize hf' : f p = f' at hstep
  generalize hv' : vl p = v' at hstep
  unfold wpOpIn
  simp only [ho]
  cases hstep with
  | @skip o1 g ci _ _ A hw hh =>
    have e := A.op
    rw [ho] at e
    cases e
    obtain ⟨C', ns', _, E, hg, _⟩ := I.env W hF0 hp hX hpr hEM ho
    have hwant := wanted_ok (ops := ops) E.L (by rw [hg]; exact A.guard) hw
    rw [hwant]
    simp only [Bool.false_eq_true, if_false]
    refine ⟨fun _ _ => trivial, ?_⟩
    cases hb : h p with
    | true =>
      refine hK _ _ _ _ (heavyNext hb (by rw [hv']; exact RX.undef ρ) ?_ ?_)
      · rw [hs']; simp only; rw [← (hheavy hb).2.1]; exact hEM
      · rw [hs']; simp only; rw [(hheavy hb).2.1]; exact Step.refl ρ _ w
    | false =>
      exact hK _ _ _ _ (lightNext hb hf' (by rw [hv']; exact RX.undef ρ) hEM (Step.refl ρ _ w))
  | @blocked o1 g ci _ _ A hb hh =>
    cases hb with
    | self e => exact (hx0 e).elim
    | step hm hb => exact (I.nobad _ (hpr _ hm) hb).elim
  | @heavy o1 g ci _ v H' A hcomp hw hh hev =>
    have e := A.op
    rw [ho] at e
    cases e
    obtain ⟨C', ns', hng, E, hg, hci⟩ := I.env W hF0 hp hX hpr hEM ho
    have hwant := wanted_ok (ops := ops) E.L (by rw [hg]; exact A.guard) hw
    rw [hwant]
    simp only [if_true]
    rw [(hheavy hb').2.1] at E
    refine op_wp (C := C') (by rw [hng]; exact hcall) (noY_ok _ _) E (by rw [hci]; exact hcomp) hev ?_ ?_
    · intro v1 e1 ρ' w' x hx hH hS
      cases e1
      refine hK _ _ _ _ (heavyNext hb' (by rw [hv']; exact hx) ?_ ?_)
      · rw [hs', ← hng]; exact hH
      · rw [hs', (hheavy hb').2.1]; exact hS
    · intro v1 e1; cases e1
  | @light o1 g ci _ v H1 A hcomp hw hl hev hbk =>
    have e := A.op
    rw [ho] at e
    cases e
    obtain ⟨C', ns', hng, E, hg, hci⟩ := I.env W hF0 hp hX hpr hEM ho
    have hwant := wanted_ok (ops := ops) E.L (by rw [hg]; exact A.guard) hw
    rw [hwant]
    simp only [if_true]
    have hevE : ∃ H2, ci.ev (st p).ls (st p).fr (EAt st f m p) = some (v', H2) := by
      obtain ⟨pre, k1, k2, k3⟩ := W.elder hmp (Nat.le_of_lt hp)
      rcases k3 with ⟨_, k4⟩ | ⟨c, k4, k5⟩
      · rw [k4]; exact ⟨_, hev⟩
      · refine backs_get hbk c _ ?_ k5
        have hge : pre.length ≤ backsOf (pr.getD (id p) []) (pre ++ (st m).hvs) := by
          refine backsOf_ge fun j hj hm => ?_
          obtain ⟨r, r1, r2, r3, r4⟩ := k2 j hj
          have := hpr j hm
          rw [← r4] at this
          exact I.high r r1 (by omega) r3 this
        rw [← k1] at hge
        omega
    obtain ⟨H2, hevE⟩ := hevE
    have hH2 := light_same hl hevE
    subst hH2
    have hnc : ci.isCall = false := by cases ci <;> first | rfl | cases hl
    obtain ⟨ρ', w', x, nx, r1, r2, r3, r4, r5⟩ := op_ok (o := o) E (by rw [hci]; exact hcomp) hnc hevE
    have done := hK _ _ _ _ (lightNext hb' hf' (by rw [hv']; exact r3) (by rw [← hng]; exact r4) r5)
    unfold Oper.wpIn
    refine ⟨fun _ _ => trivial, ?_⟩
    rw [Oper.semAt_eq _ _ _ (fun c h => by have hci' := hcomp; rw [h] at hci'; cases hci'), r1]
    rcases r2 with rfl | ⟨rfl, rfl⟩
    · exact done
    · exact done
  | @float o1 g ci _ v q R F ob A hcomp hw hf hR hev hF =>
    have e := A.op
    rw [ho] at e
    cases e
    obtain ⟨C', ns', hng, E, hg, hci⟩ := I.env W hF0 hp hX hpr hEM ho
    have hwant := wanted_ok (ops := ops) E.L (by rw [hg]; exact A.guard) hw
    rw [hwant]
    simp only [if_true]
    obtain ⟨vs, t, c, elem, x, k1, k2, k3, k4, k5⟩ := float_ok E (by rw [hci]; exact hcomp) hf hev
    rw [hF] at k2
    cases k2
    have hqn := I.names q (W.name_mem hmp hp hf')
    have hq0 := I.tocome p q _ hp hf' hX
    have hget : (EAt st f m n).get q = some (.cells t vs.len false) := by
      unfold EAt
      rw [adds_get, W.look_name hmp hp hf']
    have ad := I.rel.adopt (elem := elem) hget k1 k3 hq0 (by unfold EAt; rw [adds_next]; exact hqn.1)
    have as := I.stp.adopt (c := c) (elem := elem) (sz := c.size) hq0 hqn.2.2
    unfold Oper.wpIn
    refine ⟨fun _ _ => trivial, ?_⟩
    rw [Oper.semAt_eq _ _ _ (fun c h => by have hci' := hcomp; rw [h] at hci'; cases hci'), k4]
    show K (a.put o.dst x) _
    refine hK _ _ _ _ (I.next W hp hF0 hX hpr hx0 ho (Ren.put_ext hq0) (by rw [hv']; exact k5 _ c.size (by simp [Ren.put])) ad as I.mn (fun r hr => .inl (I.low r hr)) ?_ ?_ I.names)
    · intro r h1 h2 h3
      refine ⟨I.high r h1 h2 h3, ?_⟩
      intro e
      rw [e, hb'] at h3
      cases h3
    · intro r nm ob' hr hfr hl hne
      have : nm ≠ q := by
        intro e
        subst e
        exact hne (W.name_inj hr hp hfr hf')
      simp only [Ren.put, if_neg this]
      exact I.tocome r nm ob' hr hfr hl

/-- Where nothing is to be done any more, all was done. -/
theorem inv_listed (W : Way P C ops pr call x n st id h f vl) (I : Inv P C ops pr x n st id h f vl ρ0 H0 w0 a0 listed a w ρ m) (hr : Region.ready .any ops listed = []) : ∀ p, p < n → Lst listed (id p) := by
  have all : ∀ k, ∀ p, p < k → p < n → Lst listed (id p) := by
    intro k
    induction k with
    | zero => intro p hp; omega
    | succ k ih =>
      intro p hpk hp
      by_cases e : Lst listed (id p)
      · exact e
      · exfalso
        obtain ⟨o, ho, hpl⟩ := (W.facts hp).op
        have hpl := placed_spec hpl
        have hlt : id p < listed.size := by rw [I.sz]; exact (Array.getElem?_eq_some_iff.1 ho).1
        have : id p ∈ Region.ready .any ops listed := by
          rw [mem_ready]
          refine ⟨lst_of_not hlt e, o, ho, ?_⟩
          intro ed hed hb
          obtain ⟨q, hq, e2⟩ := (W.mem (Nat.le_of_lt hp) _).1 (hpl.2.2.2.1 _ (hpl.2.1 ed hed hb))
          have := ih q (by omega) (by omega)
          rw [e2] at this
          exact this
        rw [hr] at this
        cases this
  exact fun p hp => all n p hp hp

theorem inv_end (W : Way P C ops pr call x n st id h f vl) (hF0 : FRel C ρ0 (st 0).fr a0.tmps) (I : Inv P C ops pr x n st id h f vl ρ0 H0 w0 a0 listed a w ρ m) (hr : Region.ready .any ops listed = []) :
    Post pl P C ρ0 H0 w0 a0.defers (dl (st 0).fr) (.normal, (st n).fr, (st n).H) .normal a w := by
  have all := inv_listed W I hr
  have hq : EAt st f m n = (st n).H := W.quiet I.mn (Nat.le_refl n) fun r h1 h2 => by
    cases hh : h r with
    | false => rfl
    | true => exact (I.high r h1 h2 hh (all r h2)).elim
  refine ⟨ρ, ⟨by rw [I.tsz]; exact hF0.size, ?_⟩, by rw [← hq]; exact I.rel, by rw [← hq]; exact I.stp, (by rw [I.dfs, W.dlAt (Nat.le_refl n)]; exact Marks.refl _ _ _ _ _ _ _), trivial⟩
  intro t v ht hv
  rcases W.frAt (Nat.le_refl n) t v ht hv with ⟨q, h1, h2, h3⟩ | ⟨h1, h2⟩
  · obtain ⟨x, hx, hr⟩ := I.vals q h1 (all q h1) t h2
    exact ⟨x, hx, by rw [h3]; exact hr⟩
  · obtain ⟨x, hx, hr⟩ := hF0.far t v ht h2
    exact ⟨x, by rw [I.rest t fun q hq _ => h1 q hq]; exact hx, hr.mono I.stp.ext⟩

def unlisted (ops : Array Oper) (listed : Array Bool) : Nat := (List.range ops.size).countP fun i => !listed.getD i true

theorem unlisted_set {i : Nat} (hi : i ∈ Region.ready .any ops listed) : unlisted ops (listed.setIfInBounds i true) < unlisted ops listed := by
  obtain ⟨hun, o, ho, _⟩ := mem_ready.1 hi
  have hlt : i < ops.size := (Array.getElem?_eq_some_iff.1 ho).1
  have hl := (lst_not hun).2
  unfold unlisted
  have key : ∀ l : List Nat, (l.countP fun j => !(listed.setIfInBounds i true).getD j true) ≤ (l.countP fun j => !listed.getD j true) ∧
      (i ∈ l → (l.countP fun j => !(listed.setIfInBounds i true).getD j true) < (l.countP fun j => !listed.getD j true)) := by
    intro l
    induction l with
    | nil => exact ⟨Nat.le_refl _, fun h => by cases h⟩
    | cons j l ih =>
      rw [List.countP_cons, List.countP_cons]
      by_cases e : i = j
      · subst e
        have h1 : (!(listed.setIfInBounds i true).getD i true) = false := by simp [hl]
        have h2 : (!listed.getD i true) = true := by rw [hun]; rfl
        rw [h1, h2]
        simp only [Bool.false_eq_true, if_false, if_true]
        have := ih.1
        constructor
        · omega
        · intro _; omega
      · rw [getD_set_ne true e]
        constructor
        · have := ih.1; omega
        · intro hm
          have hm' : i ∈ l := by
            rcases List.mem_cons.1 hm with h | h
            · exact (e h).elim
            · exact h
          have := ih.2 hm'
          omega
  exact (key _).2 (List.mem_range.2 hlt)

theorem inv_all {ro : Option Nat} (hcall : CallOk P C.ng call) (W : Way P C ops pr call x n st id h f vl) (hF0 : FRel C ρ0 (st 0).fr a0.tmps) {Q : Exit → Act → World → Prop}
    (hQ : ∀ (listed : Array Bool) (a : Act) (w : World) (ρ : Ren) (m : Nat), Inv P C ops pr x n st id h f vl ρ0 H0 w0 a0 listed a w ρ m → Region.ready .any ops listed = [] → Q .normal a w)
    (hpan : ∀ (listed : Array Bool) (a : Act) (w : World) (ρ : Ren) (m : Nat) (K : Act → World → Prop), Inv P C ops pr x n st id h f vl ρ0 H0 w0 a0 listed a w ρ m → ∀ p, p < n → x = some (id p) → ¬Lst listed (id p) → (∀ k ∈ pr.getD (id p) [], Lst listed k) → wpOpIn (fz ro) 0 P ops Q (id p) K a w) :
    ∀ (fuel : Nat) (listed : Array Bool) (a : Act) (w : World) (ρ : Ren) (m : Nat), unlisted ops listed ≤ fuel → Inv P C ops pr x n st id h f vl ρ0 H0 w0 a0 listed a w ρ m → wpAnyIn (fz ro) 0 P .any ops Q fuel listed a w := by
  intro fuel
  induction fuel with
  | zero =>
    intro listed a w ρ m hu I
    have hr : Region.ready .any ops listed = [] := by
      cases hh : Region.ready .any ops listed with
      | nil => rfl
      | cons i l =>
        have := unlisted_set (ops := ops) (listed := listed) (i := i) (by rw [hh]; simp)
        omega
    exact ⟨hr, hQ _ _ _ _ _ I hr⟩
  | succ fuel ih =>
    intro listed a w ρ m hu I
    refine ⟨fun hr => hQ _ _ _ _ _ I hr, fun i hi => ?_⟩
    refine inv_step hcall W hF0 I hi ?_ ?_
    · intro a' w' ρ' m' I'
      have := unlisted_set hi
      exact ih _ a' w' ρ' m' (by omega) I'
    · intro p hp e h1 h2 h3
      exact hpan _ _ _ _ _ _ I p hp h1 h2 h3

theorem Way.floatCells (W : Way P C ops pr call x n st id h f vl) {p : Nat} (hp : p < n) {q : Pos} {o : AO} (hf : f p = some (q, o)) : ∃ t m op, o = .cells t m op := by
  have hs := W.step p hp
  rw [hf] at hs
  generalize id p = i at hs
  generalize h p = b at hs
  generalize vl p = v at hs
  generalize st p = s at hs
  generalize st (p + 1) = s' at hs
  cases hs with
  | float A hcomp hw hfl hR hev hF => exact float_obj hfl hev hF

/-! The names that are kept. -/
theorem reserve_spec : ∀ (k : Nat) (H : Heap), (reserve k H).2.t = H.t ∧ H.next.num ≤ (reserve k H).2.next.num ∧ (∀ q ∈ (reserve k H).1, H.next.num ≤ q.num ∧ q.num < (reserve k H).2.next.num) ∧ (reserve k H).1.Nodup := by
  intro k
  induction k with
  | zero => intro H; exact ⟨rfl, Nat.le_refl _, fun q hq => (by cases hq), List.nodup_nil⟩
  | succ k ih =>
    intro H
    obtain ⟨h1, h2, h3, h4⟩ := ih ⟨H.next.succ, H.t⟩
    simp only [reserve]
    simp only [Pos.num_succ] at h2 h3
    refine ⟨h1, by omega, ?_, ?_⟩
    · intro q hq
      rcases List.mem_cons.1 hq with rfl | hq
      · exact ⟨Nat.le_refl _, by omega⟩
      · have := h3 q hq; omega
    · refine List.nodup_cons.2 ⟨fun hm => ?_, h4⟩
      have := (h3 _ hm).1
      omega

theorem inv_init {nf : Nat} {fr : Tr AV} {H : Heap} (hF : FRel C ρ fr a.tmps) (hH : HRel P C.ng ρ H w) (W : Way P C ops pr call x n st id h f vl) (e0 : st 0 = ⟨[], [], (reserve nf H).1, [], .nil, fr, (reserve nf H).2⟩) :
    Inv P C ops pr x n st id h f vl ρ H w a (Array.replicate ops.size false) a { w with drawn := w.drawn + 1 } ρ 0 := by
  obtain ⟨r1, r2, r3, r4⟩ := reserve_spec nf H
  have hno : ∀ j, ¬Lst (Array.replicate ops.size false) j := by
    intro j
    unfold Lst
    by_cases e : j < ops.size <;> simp [e]
  have hget : ∀ q, (∃ o, look f q 0 (n - 0) = some o ∧ H.next.num ≤ q.num ∧ q.num < (reserve nf H).2.next.num) ∨ (EAt st f 0 n).get q = H.get q := by
    intro q
    unfold EAt
    rw [adds_get]
    cases hl : look f q 0 (n - 0) with
    | none =>
      right
      simp only
      rw [e0]
      show (reserve nf H).2.t.get q = H.t.get q
      rw [r1]
    | some o =>
      left
      obtain ⟨r, k1, k2, k3⟩ := look_some f q _ _ _ hl
      have hm := W.name_mem (m := 0) (Nat.zero_le r) (by omega) k3
      rw [e0] at hm
      obtain ⟨n1, n2⟩ := r3 q hm
      exact ⟨o, rfl, n1, n2⟩
  have hnext : (EAt st f 0 n).next = (reserve nf H).2.next := by unfold EAt; rw [adds_next, e0]
  have hold : ∀ q, q.num < H.next.num → (EAt st f 0 n).get q = H.get q := by
    intro q hq
    rcases hget q with ⟨o, _, k1, _⟩ | k
    · omega
    · exact k
  have hmap : ∀ q K, ρ q = some K → q.num < H.next.num := by
    intro q K hq
    rcases Nat.lt_or_ge q.num H.next.num with hh | hh
    · exact hh
    · rw [hH.fresh q hh] at hq; cases hq
  refine ⟨by simp, Nat.zero_le _, fun p hp => by omega, fun p _ _ _ => hno _, fun j hj => (hno j hj).elim, ?_, ?_, fun p _ hl => (hno _ hl).elim, fun t _ => rfl, rfl, rfl, ?_, ?_, fun j hj => (hno j hj).elim⟩
  · refine ⟨?_, ?_, hH.bound, ?_, hH.globals, ?_, ?_⟩
    · intro q o K hq hd hK
      rw [hold q (hmap q K hK)] at hq
      exact (hH.objs q o K hq hd hK).same rfl
    · intro q r K N hq hr hK hN hb
      rw [live_congr (hold q (hmap q K hK))] at hq
      rw [live_congr (hold r (hmap r N hN))] at hr
      exact hH.inj q r K N hq hr hK hN hb
    · intro q hq
      rw [hnext] at hq
      exact hH.fresh q (by omega)
    · intro q hq
      rw [hnext] at hq
      rcases hget q with ⟨o, _, k1, k2⟩ | k
      · omega
      · rw [live_congr k]; exact hH.wf q (by omega)
    · intro q o hq
      cases hl : look f q 0 (n - 0) with
      | none =>
        have : (EAt st f 0 n).get q = H.get q := by
          unfold EAt
          rw [adds_get, hl]
          simp only
          rw [e0]
          show (reserve nf H).2.t.get q = H.t.get q
          rw [r1]
        rw [this] at hq
        exact hH.loops q o hq
      | some o' =>
        have : (EAt st f 0 n).get q = some o' := by
          unfold EAt
          rw [adds_get, hl]
        rw [this] at hq
        cases hq
        obtain ⟨r, k1, k2, k3⟩ := look_some f q _ _ _ hl
        obtain ⟨t, m, op, rfl⟩ := W.floatCells (by omega) k3
        trivial
  · refine ⟨Ext.refl ρ, rfl, rfl, rfl, Nat.le_refl _, fun _ _ _ => rfl, ?_, by rw [hnext]; exact r2, fun q K h1 h2 => (by rw [h1] at h2; cases h2), ?_, ?_⟩
    · intro q K hq hK
      rw [live_congr (hold q (hmap q K hK))] at hq
      exact .inr ⟨q, K, hq, hK, rfl⟩
    · intro q hq hl
      rw [live_congr (hold q hq)]
      exact hl
    · intro q hq t hg
      exact ⟨by rw [hold q hq]; exact hg, fun _ _ _ => rfl⟩
  · intro p q o hp hf _
    have hm := W.name_mem (m := 0) (Nat.zero_le p) hp hf
    rw [e0] at hm
    exact hH.fresh q (r3 q hm).1
  · intro q hq
    rw [e0] at hq ⊢
    obtain ⟨k1, k2⟩ := r3 q hq
    refine ⟨k2, ?_, k1⟩
    have : (reserve nf H).2.get q = H.get q := by show (reserve nf H).2.t.get q = H.t.get q; rw [r1]
    rw [live_congr this]
    exact hH.wf q k1


theorem all_unlisted (ops : Array Oper) : unlisted ops (Array.replicate ops.size false) ≤ ops.size := by
  unfold unlisted
  have := List.countP_le_length (p := fun i => !(Array.replicate ops.size false).getD i true) (l := List.range ops.size)
  simpa using this

theorem draw_ok {ro : Option Nat} (hcall : CallOk P C.ng call) {σ : List Nat} {ds : DIs} {nf : Nat} {fr fr' : Tr AV} {H H' : Heap} (hc : opsD P C ops pr σ [] [] = some ds) (hF : FRel C ρ fr a.tmps) (hH : HRel P C.ng ρ H w)
    (hrun : ds.run call (reserve nf H).1 [] .nil fr (reserve nf H).2 = some (fr', H')) (Q : Exit → Act → World → Prop) (hQ : ∀ e a' w', Post pl P C ρ H w a.defers (dl fr) (.normal, fr', H') e a' w' → Q e a' w') :
    wpAnyIn (fz ro) 0 P .any ops Q ops.size (Array.replicate ops.size false) a { w with drawn := w.drawn + 1 } := by
  obtain ⟨st, id, h, f, vl, e0, e1, e2, e3, e4⟩ := trace σ ⟨[], [], (reserve nf H).1, [], .nil, fr, (reserve nf H).2⟩ ds fr' H' hc hrun
  obtain ⟨r1, r2, r3, r4⟩ := reserve_spec nf H
  have W : Way P C ops pr call none σ.length st id h f vl := ⟨e1, by rw [e0], by rw [e0], by rw [e0], by rw [e0], by rw [e0]; exact r4, e4⟩
  rw [← e2, ← e3] at hQ
  have hF0 : FRel C ρ (st 0).fr a.tmps := by rw [e0]; exact hF
  have hQ' : ∀ e a' w', Post pl P C ρ H w a.defers (dl (st 0).fr) (.normal, (st σ.length).fr, (st σ.length).H) e a' w' → Q e a' w' := by rw [e0]; exact hQ
  exact inv_all (ρ0 := ρ) (H0 := H) (w0 := w) (a0 := a) hcall W hF0 (fun _ _ _ _ _ I hr => hQ' _ _ _ (inv_end W hF0 I hr)) (fun _ _ _ _ _ _ _ _ _ h1 => by cases h1) ops.size _ a _ ρ 0 (all_unlisted ops) (inv_init hF hH W e0)

theorem Step.sub {E M : Heap} {L : Pos → Option AO} {ρ' : Ren} {w' : World} (h : Step ρ0 H0 w0 ρ' M w') (ho : Over E L M) (hn : ∀ q o, L q = some o → H0.next.num ≤ q.num) : Step ρ0 H0 w0 ρ' E w' where
  ext := h.ext
  os := h.os
  tape := h.tape
  output := h.output
  size := h.size
  frame := h.frame
  own := fun p K hl hp => h.own p K (ho.live_of hl).2.2 hp
  next := by rw [← ho.next]; exact h.next
  new := h.new
  old := fun p hp hl => by
    cases hh : E.live p with
    | false => rfl
    | true =>
      have h1 := (ho.live_of hh).2.2
      rw [h.old p hp hl] at h1
      cases h1
  keep := fun p hp t hg => by
    obtain ⟨g1, g2⟩ := h.keep p hp t hg
    refine ⟨?_, g2⟩
    have g := ho.get p
    cases hL : L p with
    | none => rw [hL] at g; exact g.symm.trans g1
    | some o => have := hn p o hL; omega

/-- What threw, throws. -/
theorem pan_step {ro : Option Nat} (hcall : CallOk P C.ng call) (W : Way P C ops pr call x n st id h f vl) (hF0 : FRel C ρ0 (st 0).fr a0.tmps) {r : AV × Tr AV × Heap} {p : Nat} (PD : PanD P C ops pr call x n st id h r p)
    (I : Inv P C ops pr x n st id h f vl ρ0 H0 w0 a0 listed a w ρ m) (hX : ¬Lst listed (id p)) (hpr : ∀ k ∈ pr.getD (id p) [], Lst listed k) {Q : Exit → Act → World → Prop} {K : Act → World → Prop}
    (hQ : ∀ e a' w', Post pl P C ρ0 H0 w0 a0.defers (dl (st 0).fr) (.pan r.1, r.2.1, r.2.2) e a' w' → Q e a' w') : wpOpIn (fz ro) 0 P ops Q (id p) K a w := by
  have hp := PD.lt
  have Fp := W.facts hp
  obtain ⟨o, g, ci, A, hcomp, hw, hev⟩ := PD.run
  have ho := A.op
  have hmp : m ≤ p := by
    rcases Nat.lt_or_ge p m with h | h
    · exact (hX (I.low p h)).elim
    · exact h
  have hov := I.over W hmp (Nat.le_of_lt hp)
  have hEM := I.rel.sub hov
  obtain ⟨h1, h2, _⟩ := Fp.heavy PD.heavy
  have hall : ∀ q, q < p → Lst listed (id q) := by
    intro q hq
    rw [List.all_eq_true] at h1
    exact hpr _ (List.contains_iff_mem.1 (h1 (id q) ((W.mem (by omega) _).2 ⟨q, hq, rfl⟩)))
  have hE : EAt st f m p = (st p).H := W.quiet hmp (by omega) fun r hr1 hr2 => by
    cases hr : h r with
    | false => rfl
    | true => exact (I.high r hr1 (by omega) hr (hall r hr2)).elim
  obtain ⟨C', ns', hng, E, hg, hci⟩ := I.env W hF0 hp hX hpr hEM ho
  have hwant := wanted_ok (ops := ops) E.L (by rw [hg]; exact A.guard) hw
  unfold wpOpIn
  simp only [ho]
  rw [hwant]
  simp only [if_true]
  rw [hE] at E
  refine op_wp (C := C') (by rw [hng]; exact hcall) (noY_ok _ _) E (by rw [hci]; exact hcomp) hev ?_ ?_
  · intro v1 e1; cases e1
  · intro v1 e1 ρ' w' y hy hH hS
    cases e1
    rw [hng] at hH
    refine hQ _ _ _ ⟨ρ', ⟨by rw [I.tsz]; exact hF0.size, ?_⟩, hH, ?_, ?_, ⟨y, rfl, hy⟩⟩
    · intro t v ht hv
      rw [PD.fr] at hv
      rcases W.frAt (Nat.le_of_lt hp) t v ht hv with ⟨q, k1, k2, k3⟩ | ⟨k1, k2⟩
      · obtain ⟨z, hz, hr⟩ := I.vals q (by omega) (hall q k1) t k2
        exact ⟨z, hz, by rw [k3]; exact hr.mono hS.ext⟩
      · obtain ⟨z, hz, hr⟩ := hF0.far t v ht k2
        refine ⟨z, ?_, (hr.mono I.stp.ext).mono hS.ext⟩
        rw [I.rest t fun q hq hl hd => ?_]
        · exact hz
        · rcases Nat.lt_trichotomy q p with hlt | heq | hgt
          · exact k1 q hlt hd
          · subst heq; exact hX hl
          · have := PD.later q hgt hq (I.nobad _ hl) t hd ht
            rw [this] at hv
            cases hv
    · rw [hE] at hov
      have hnm : ∀ q o, look f q p (n - p) = some o → q ∈ (st p).R := fun q o hq => by
        obtain ⟨r, k1, k2, k3⟩ := look_some f q _ _ _ hq
        exact W.name_mem (m := p) (r := r) k1 (by omega) k3
      have hgM : ∀ q, (adds f p (n - p) r.2.2).get q = match look f q p (n - p) with | some o => some o | none => r.2.2.get q := fun q => adds_get f q (n - p) p r.2.2
      obtain ⟨c1, c2⟩ := carry (M' := adds f p (n - p) r.2.2) I.rel hH hS hov hgM (adds_next f (n - p) p r.2.2)
      refine (I.stp.trans c2).sub (L := fun q => look f q p (n - p)) ⟨hgM, adds_next f (n - p) p r.2.2, fun q o hq => ?_⟩ fun q o hq => (I.namesAt W hmp (Nat.le_of_lt hp) q (hnm q o hq)).2.2
      obtain ⟨f1, f2⟩ := hov.free q o hq
      exact ⟨hS.old q f2 f1, Nat.lt_of_lt_of_le f2 hS.next⟩
    · rw [I.dfs, PD.fr, W.dlAt (Nat.le_of_lt hp)]
      exact Marks.refl _ _ _ _ _ _ _

theorem draw_pan {ro : Option Nat} (hcall : CallOk P C.ng call) {σ : List Nat} {ds : DIs} {nf : Nat} {fr : Tr AV} {H : Heap} {r : AV × Tr AV × Heap} (hc : opsD P C ops pr σ [] [] = some ds) (hF : FRel C ρ fr a.tmps) (hH : HRel P C.ng ρ H w)
    (hrun : ds.pan call (reserve nf H).1 [] .nil fr (reserve nf H).2 = some r) (Q : Exit → Act → World → Prop) (hQ : ∀ e a' w', Post pl P C ρ H w a.defers (dl fr) (.pan r.1, r.2.1, r.2.2) e a' w' → Q e a' w') :
    wpAnyIn (fz ro) 0 P .any ops Q ops.size (Array.replicate ops.size false) a { w with drawn := w.drawn + 1 } := by
  obtain ⟨x, st, id, h, f, vl, p, e0, e1, e4, PD⟩ := trace_pan σ ⟨[], [], (reserve nf H).1, [], .nil, fr, (reserve nf H).2⟩ ds r hc hrun
  obtain ⟨r1, r2, r3, r4⟩ := reserve_spec nf H
  have W : Way P C ops pr call x σ.length st id h f vl := ⟨e1, by rw [e0], by rw [e0], by rw [e0], by rw [e0], by rw [e0]; exact r4, e4⟩
  have hF0 : FRel C ρ (st 0).fr a.tmps := by rw [e0]; exact hF
  have hQ' : ∀ e a' w', Post pl P C ρ H w a.defers (dl (st 0).fr) (.pan r.1, r.2.1, r.2.2) e a' w' → Q e a' w' := by rw [e0]; exact hQ
  refine inv_all (ρ0 := ρ) (H0 := H) (w0 := w) (a0 := a) hcall W hF0 (fun listed a w ρ m I hr => (I.nobad _ (inv_listed W I hr p PD.lt) (.self PD.is)).elim) (fun listed a w ρ m K I q hq h1 h2 h3 => ?_) ops.size _ a _ ρ 0 (all_unlisted ops) (inv_init hF hH W e0)
  have e := PD.is
  rw [h1] at e
  have := W.inj hq PD.lt (Option.some.inj e)
  subst this
  exact pan_step hcall W hF0 PD I h2 h3 hQ'

end
end Go.Dx
