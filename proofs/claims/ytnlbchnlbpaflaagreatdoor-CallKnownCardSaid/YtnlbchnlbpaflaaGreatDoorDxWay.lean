/-
  Regions that draw: facts of the run along the region's one order.
-/
import Derived.Test.YtnlbchnlbpaflaaGreatDoorDxDraw
set_option linter.unusedSimpArgs false
set_option linter.unusedVariables false
set_option linter.unusedSectionVars false
namespace Go.Dx

def dstOf (ops : Array Oper) (j : Nat) : Option Tmp := (ops[j]?).bind (·.dst)

section
variable {P : Program} {C : Ctx} {ops : Array Oper} {pr : List (List Nat)} {call : Nat → AV → Heap → Option (CR × Heap)}

structure Facts (C : Ctx) (ops : Array Oper) (pr : List (List Nat)) (i : Nat) (h : Bool) (f : Option (Pos × AO)) (v : AV) (s s' : DS) : Prop where
  done : s'.done = i :: s.done
  ls : s'.ls = .cons v s.ls
  fr : s'.fr = setDst s.fr (farDst C (dstOf ops i)) v
  hvs : s'.hvs = if h then i :: s.hvs else s.hvs
  dst : dstOk C (namesOf ops s.done) (dstOf ops i) = true
  op : ∃ o, ops[i]? = some o ∧ placed ops pr i o s.done = true
  heavy : h = true → s.done.all (pr.getD i []).contains = true ∧ f = none ∧ s'.Hs = s.H :: s.Hs
  none : f = none → s'.R = s.R ∧ (h = false → s'.Hs = s.Hs)
  some : ∀ q o, f = some (q, o) → s.R = q :: s'.R ∧ s'.Hs = putAll q o s.Hs
  mem : h = false → s'.H = addF s.H f

theorem StepD.facts {i : Nat} {h : Bool} {f : Option (Pos × AO)} {v : AV} {s s' : DS} (k : StepD P C ops pr call i h f v s s') : Facts C ops pr i h f v s s' := by
  cases k with
  | @skip o _ _ _ _ A hw hh =>
    have e := A.op
    have hd : dstOf ops i = o.dst := by unfold dstOf; rw [e]; rfl
    exact ⟨rfl, rfl, by rw [hd], rfl, by rw [hd]; exact A.dst, ⟨_, e, A.placed⟩, fun h1 => ⟨hh h1, rfl, by simp [h1]⟩, fun _ => ⟨rfl, fun h1 => by simp [h1]⟩, fun q o h => (by cases h), fun _ => rfl⟩
  | @heavy o _ _ _ _ _ A hc hw hh hev =>
    have e := A.op
    have hd : dstOf ops i = o.dst := by unfold dstOf; rw [e]; rfl
    exact ⟨rfl, rfl, by rw [hd], rfl, by rw [hd]; exact A.dst, ⟨_, e, A.placed⟩, fun h1 => ⟨hh, rfl, rfl⟩, fun _ => ⟨rfl, fun h1 => (by cases h1)⟩, fun q o h => (by cases h), fun h1 => by cases h1⟩
  | @light o _ _ _ _ _ A hc hw hl hev hb =>
    have e := A.op
    have hd : dstOf ops i = o.dst := by unfold dstOf; rw [e]; rfl
    exact ⟨rfl, rfl, by rw [hd], rfl, by rw [hd]; exact A.dst, ⟨_, e, A.placed⟩, fun h1 => (by cases h1), fun _ => ⟨rfl, fun h1 => rfl⟩, fun q o h => (by cases h), fun _ => rfl⟩
  | @float o _ _ _ _ _ _ _ _ A hc hw hf hR hev hF =>
    have e := A.op
    have hd : dstOf ops i = o.dst := by unfold dstOf; rw [e]; rfl
    exact ⟨rfl, rfl, by rw [hd], rfl, by rw [hd]; exact A.dst, ⟨_, e, A.placed⟩, fun h1 => (by cases h1), fun h => (by cases h), fun q o h => (by cases h; exact ⟨hR, rfl⟩), fun _ => rfl⟩

/-! What 'placed' says. -/
theorem placed_spec {i : Nat} {o : Oper} {done : List Nat} (h : placed ops pr i o done = true) :
    i ∉ done ∧ (∀ e ∈ o.after, Region.binds .any e = true → e.on ∈ pr.getD i []) ∧
    (∀ j ∈ pr.getD i [], (∃ e ∈ o.after, Region.binds .any e = true ∧ e.on = j) ∨ ∃ e ∈ o.after, Region.binds .any e = true ∧ j ∈ pr.getD e.on []) ∧
    (∀ j ∈ pr.getD i [], j ∈ done) ∧ (∀ j ∈ done, j ∈ pr.getD i [] ∨ ∃ x, ops[j]? = some x ∧ x.apart ops o = true) := by
  unfold placed at h
  simp only [Bool.and_eq_true, Bool.not_eq_true', List.all_eq_true, Bool.or_eq_true, List.any_eq_true] at h
  obtain ⟨⟨⟨⟨h1, h2⟩, h3⟩, h4⟩, h5⟩ := h
  refine ⟨?_, ?_, ?_, ?_, ?_⟩
  · intro hm
    have : done.contains i = true := List.contains_iff_mem.2 hm
    rw [h1] at this; cases this
  · intro e he hb
    exact List.contains_iff_mem.1 (h2 e.on (List.mem_map.2 ⟨e, List.mem_filter.2 ⟨by simpa using he, hb⟩, rfl⟩))
  · intro j hj
    rcases h3 j hj with h | ⟨d, hd, hm⟩
    · obtain ⟨e, he, rfl⟩ := List.mem_map.1 (List.contains_iff_mem.1 h)
      obtain ⟨he1, he2⟩ := List.mem_filter.1 he
      exact .inl ⟨e, by simpa using he1, he2, rfl⟩
    · obtain ⟨e, he, rfl⟩ := List.mem_map.1 hd
      obtain ⟨he1, he2⟩ := List.mem_filter.1 he
      exact .inr ⟨e, by simpa using he1, he2, List.contains_iff_mem.1 hm⟩
  · intro j hj
    exact List.contains_iff_mem.1 (h4 j hj)
  · intro j hj
    rcases h5 j hj with h | h
    · exact .inl (List.contains_iff_mem.1 h)
    · right
      split at h
      · rename_i x hx; exact ⟨x, hx, h⟩
      · cases h

structure Way (P : Program) (C : Ctx) (ops : Array Oper) (pr : List (List Nat)) (call : Nat → AV → Heap → Option (CR × Heap)) (n : Nat) (st : Nat → DS) (id : Nat → Nat) (h : Nat → Bool) (f : Nat → Option (Pos × AO)) (vl : Nat → AV) : Prop where
  step : ∀ p, p < n → StepD P C ops pr call (id p) (h p) (f p) (vl p) (st p) (st (p + 1))
  d0 : (st 0).done = []
  h0 : (st 0).hvs = []
  s0 : (st 0).Hs = []
  l0 : (st 0).ls = .nil
  nd : (st 0).R.Nodup
  all : (List.range ops.size).all (st n).done.contains = true

variable {n : Nat} {st : Nat → DS} {id : Nat → Nat} {h : Nat → Bool} {f : Nat → Option (Pos × AO)} {vl : Nat → AV}

section

theorem Way.facts (W : Way P C ops pr call n st id h f vl) {p : Nat} (hp : p < n) : Facts C ops pr (id p) (h p) (f p) (vl p) (st p) (st (p + 1)) := (W.step p hp).facts

theorem Way.mem (W : Way P C ops pr call n st id h f vl) : ∀ {p : Nat}, p ≤ n → ∀ j, j ∈ (st p).done ↔ ∃ q, q < p ∧ id q = j := by
  intro p
  induction p with
  | zero => intro _ j; rw [W.d0]; simp
  | succ p ih =>
    intro hp j
    rw [(W.facts (by omega)).done, List.mem_cons, ih (by omega)]
    constructor
    · rintro (e | ⟨q, h1, h2⟩)
      · exact ⟨p, by omega, e.symm⟩
      · exact ⟨q, by omega, h2⟩
    · rintro ⟨q, h1, h2⟩
      by_cases e : q = p
      · subst e; exact .inl h2.symm
      · exact .inr ⟨q, by omega, h2⟩

theorem Way.inj (W : Way P C ops pr call n st id h f vl) {p q : Nat} (hp : p < n) (hq : q < n) (e : id p = id q) : p = q := by
  have key : ∀ {a b : Nat}, a < b → b < n → id a ≠ id b := by
    intro a b hab hb e
    obtain ⟨o, _, ho⟩ := (W.facts hb).op
    exact (placed_spec ho).1 ((W.mem (by omega) _).2 ⟨a, hab, e⟩)
  rcases Nat.lt_trichotomy p q with h | h | h
  · exact (key h hq e).elim
  · exact h
  · exact (key h hp e.symm).elim

theorem Way.onto (W : Way P C ops pr call n st id h f vl) {i : Nat} (hi : i < ops.size) : ∃ p, p < n ∧ id p = i := by
  have := W.all
  rw [List.all_eq_true] at this
  exact (W.mem (Nat.le_refl n) i).1 (List.contains_iff_mem.1 (this i (List.mem_range.2 hi)))

theorem Way.dst_ne (W : Way P C ops pr call n st id h f vl) {p q : Nat} (hqp : q < p) (hp : p < n) {d : Tmp} (hd : dstOf ops (id q) = some d) : dstOf ops (id p) ≠ some d := by
  intro e
  have h1 := (W.facts hp).dst
  rw [e] at h1
  have h2 := (dstOk_lt h1).2
  unfold nameAt at h2
  rw [List.idxOf?_eq_none_iff] at h2
  apply h2
  exact List.mem_map.2 ⟨id q, (W.mem (by omega) _).2 ⟨q, hqp, rfl⟩, hd⟩

theorem Way.nth (W : Way P C ops pr call n st id h f vl) : ∀ {p : Nat}, p ≤ n → ∀ k j, (st p).done[k]? = some j → ∃ q, q < p ∧ id q = j ∧ ∀ v, (st p).ls.nth k = some v → v = vl q := by
  intro p
  induction p with
  | zero => intro _ k j hk; rw [W.d0] at hk; simp at hk
  | succ p ih =>
    intro hp k j hk
    have F := W.facts (p := p) (by omega)
    rw [F.done] at hk
    rw [F.ls]
    cases k with
    | zero =>
      simp at hk
      exact ⟨p, by omega, hk, fun v hv => by simp [AV.nth] at hv; exact hv.symm⟩
    | succ k =>
      simp only [List.getElem?_cons_succ] at hk
      obtain ⟨q, h1, h2, h3⟩ := ih (by omega) k j hk
      exact ⟨q, by omega, h2, fun v hv => h3 v (by simpa [AV.nth] using hv)⟩

theorem Way.dlAt (W : Way P C ops pr call n st id h f vl) : ∀ {p : Nat}, p ≤ n → dl (st p).fr = dl (st 0).fr := by
  intro p
  induction p with
  | zero => intro _; rfl
  | succ p ih =>
    intro hp
    have F := W.facts (p := p) (by omega)
    rw [F.fr, dl_setDst]
    exact ih (by omega)
theorem Way.frAt (W : Way P C ops pr call n st id h f vl) : ∀ {p : Nat}, p ≤ n → ∀ t v, C.far t = true → (st p).fr.get (key (t + 1)) = some v →
    (∃ q, q < p ∧ dstOf ops (id q) = some t ∧ v = vl q) ∨ ((∀ q, q < p → dstOf ops (id q) ≠ some t) ∧ (st 0).fr.get (key (t + 1)) = some v) := by
  intro p
  induction p with
  | zero => intro _ t v _ hv; exact .inr ⟨fun q hq => by omega, hv⟩
  | succ p ih =>
    intro hp t v ht hv
    have F := W.facts (p := p) (by omega)
    rw [F.fr] at hv
    by_cases e : dstOf ops (id p) = some t
    · rw [e] at hv
      simp only [farDst, ht, if_true, setDst, Tr.get_set_same] at hv
      cases hv
      exact .inl ⟨p, by omega, e, rfl⟩
    · have hv' : (st p).fr.get (key (t + 1)) = some v := by
        cases hd : dstOf ops (id p) with
        | none => rw [hd] at hv; exact hv
        | some d =>
          rw [hd] at hv
          simp only [farDst] at hv
          split at hv
          · simp only [setDst] at hv
            rwa [Tr.get_set_ne (fun h => e (by rw [hd]; have := key_inj h; simp at this; rw [this]))] at hv
          · exact hv
      rcases ih (by omega) t v ht hv' with ⟨q, h1, h2, h3⟩ | ⟨h1, h2⟩
      · exact .inl ⟨q, by omega, h2, h3⟩
      · refine .inr ⟨fun q hq => ?_, h2⟩
        by_cases e2 : q = p
        · subst e2; exact e
        · exact h1 q (by omega)

/-! The names that are kept. -/
theorem Way.suffix (W : Way P C ops pr call n st id h f vl) : ∀ {m p : Nat}, m ≤ p → p ≤ n → ∃ l, (st m).R = l ++ (st p).R := by
  intro m p hmp
  induction p with
  | zero => intro _; obtain rfl : m = 0 := (by omega); exact ⟨[], rfl⟩
  | succ p ih =>
    intro hp
    by_cases e : m = p + 1
    · subst e; exact ⟨[], rfl⟩
    · obtain ⟨l, hl⟩ := ih (by omega) (by omega)
      have F := W.facts (p := p) (by omega)
      cases hf : f p with
      | none => exact ⟨l, by rw [(F.none hf).1]; exact hl⟩
      | some po =>
        obtain ⟨q, o⟩ := po
        exact ⟨l ++ [q], by rw [hl, (F.some q o hf).1]; simp⟩

theorem Way.nodup (W : Way P C ops pr call n st id h f vl) {p : Nat} (hp : p ≤ n) : (st p).R.Nodup := by
  obtain ⟨l, hl⟩ := W.suffix (Nat.zero_le p) hp
  have := W.nd
  rw [hl] at this
  exact (List.nodup_append.1 this).2.1

theorem Way.name_mem (W : Way P C ops pr call n st id h f vl) {m r : Nat} (hmr : m ≤ r) (hr : r < n) {q : Pos} {o : AO} (hf : f r = some (q, o)) : q ∈ (st m).R := by
  obtain ⟨l, hl⟩ := W.suffix hmr (Nat.le_of_lt hr)
  rw [hl, ((W.facts hr).some q o hf).1]
  simp

theorem Way.name_out (W : Way P C ops pr call n st id h f vl) {r p : Nat} (hrp : r < p) (hp : p ≤ n) {q : Pos} {o : AO} (hf : f r = some (q, o)) : q ∉ (st p).R := by
  obtain ⟨l, hl⟩ := W.suffix (m := r + 1) hrp hp
  have h1 := W.nodup (p := r) (by omega)
  rw [((W.facts (by omega)).some q o hf).1, hl] at h1
  intro hm
  simp at h1
  exact h1.1.2 hm

theorem Way.name_inj (W : Way P C ops pr call n st id h f vl) {r p : Nat} (hr : r < n) (hp : p < n) {q : Pos} {o o' : AO} (h1 : f r = some (q, o)) (h2 : f p = some (q, o')) : r = p := by
  rcases Nat.lt_trichotomy r p with h | h | h
  · exact (W.name_out h (by omega) h1 (W.name_mem (Nat.le_refl p) hp h2)).elim
  · exact h
  · exact (W.name_out h (by omega) h2 (W.name_mem (Nat.le_refl r) hr h1)).elim

theorem Way.look_name (W : Way P C ops pr call n st id h f vl) {m p : Nat} (hmp : m ≤ p) (hp : p < n) {q : Pos} {o : AO} (hf : f p = some (q, o)) : look f q m (n - m) = some o := by
  cases hl : look f q m (n - m) with
  | none => exact (look_ne f q (n - m) m p o hmp (by omega) hf hl).elim
  | some o' =>
    obtain ⟨r, h1, h2, h3⟩ := look_some f q _ _ _ hl
    have := W.name_inj (by omega) hp h3 hf
    subst this
    rw [hf] at h3
    cases h3
    rfl

/-! States of memory. -/
/-- The memory in which nothing heavy behind the place m was done, and all blocks that are made up to p. -/
def EAt (st : Nat → DS) (f : Nat → Option (Pos × AO)) (m p : Nat) : Heap := adds f m (p - m) (st m).H

theorem EAt_succ {m p : Nat} (hmp : m ≤ p) : EAt st f m (p + 1) = addF (EAt st f m p) (f p) := by
  unfold EAt
  rw [show p + 1 - m = (p - m) + 1 by omega, adds_add]
  simp only [adds]
  rw [show m + (p - m) = p by omega]

theorem Way.quiet (W : Way P C ops pr call n st id h f vl) : ∀ {m p : Nat}, m ≤ p → p ≤ n → (∀ r, m ≤ r → r < p → h r = false) → EAt st f m p = (st p).H := by
  intro m p hmp
  induction p with
  | zero => intro _ _; obtain rfl : m = 0 := (by omega); rfl
  | succ p ih =>
    intro hp hq
    by_cases e : m = p + 1
    · subst e; simp [EAt, adds]
    · rw [EAt_succ (by omega), ih (by omega) (by omega) fun r h1 h2 => hq r h1 (by omega)]
      exact ((W.facts (p := p) (by omega)).mem (hq p (by omega) (by omega))).symm

theorem Way.elder (W : Way P C ops pr call n st id h f vl) : ∀ {m p : Nat}, m ≤ p → p ≤ n → ∃ pre, (st p).hvs = pre ++ (st m).hvs ∧ (∀ i ∈ pre, ∃ r, m ≤ r ∧ r < p ∧ h r = true ∧ id r = i) ∧
    ((pre = [] ∧ EAt st f m p = (st p).H) ∨ ∃ c, pre.length = c + 1 ∧ (st p).Hs[c]? = some (EAt st f m p)) := by
  intro m p hmp
  induction p with
  | zero => intro _; obtain rfl : m = 0 := (by omega); exact ⟨[], rfl, fun i hi => (by simp at hi), .inl ⟨rfl, rfl⟩⟩
  | succ p ih =>
    intro hp
    by_cases e : m = p + 1
    · subst e; exact ⟨[], rfl, fun i hi => (by simp at hi), .inl ⟨rfl, by simp [EAt, adds]⟩⟩
    · obtain ⟨pre, h1, h2, h3⟩ := ih (by omega) (by omega)
      have F := W.facts (p := p) (by omega)
      have hE := EAt_succ (st := st) (f := f) (m := m) (p := p) (by omega)
      cases hh : h p with
      | true =>
        obtain ⟨_, k2, k3⟩ := F.heavy hh
        rw [k2] at hE
        refine ⟨id p :: pre, by rw [F.hvs, hh, if_pos rfl, h1]; rfl, ?_, ?_⟩
        · intro i hi
          rcases List.mem_cons.1 hi with rfl | hi
          · exact ⟨p, by omega, by omega, hh, rfl⟩
          · obtain ⟨r, a, b, c, d⟩ := h2 i hi
            exact ⟨r, a, by omega, c, d⟩
        · right
          rcases h3 with ⟨rfl, k4⟩ | ⟨c, k4, k5⟩
          · exact ⟨0, rfl, by rw [k3, hE]; simp [addF, k4]⟩
          · exact ⟨c + 1, by simp [k4], by rw [k3, hE]; simpa [addF] using k5⟩
      | false =>
        refine ⟨pre, by rw [F.hvs, hh]; simpa using h1, ?_, ?_⟩
        · intro i hi
          obtain ⟨r, a, b, c, d⟩ := h2 i hi
          exact ⟨r, a, by omega, c, d⟩
        · rcases h3 with ⟨rfl, k4⟩ | ⟨c, k4, k5⟩
          · exact .inl ⟨rfl, by rw [hE, k4, F.mem hh]⟩
          · right
            refine ⟨c, k4, ?_⟩
            rw [hE]
            cases hf : f p with
            | none => rw [(F.none hf).2 hh]; exact k5
            | some po =>
              obtain ⟨q, o⟩ := po
              rw [(F.some q o hf).2]
              have : ∀ (Hs : List Heap) (c : Nat) (E : Heap), Hs[c]? = some E → (putAll q o Hs)[c]? = some (E.put q o) := by
                intro Hs
                induction Hs with
                | nil => intro c E h; simp at h
                | cons H Hs ih =>
                  intro c E h
                  cases c with
                  | zero => simp at h; subst h; rfl
                  | succ c => simpa [putAll] using ih c E (by simpa using h)
              exact this _ _ _ k5

end
end
end Go.Dx
