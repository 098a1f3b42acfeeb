/-
  Regions that draw: what holds whatever of the region was done, and that it goes on to hold.
-/
import Derived.Test.YtnlbchnlbpaflaaGreatDoorDxWay
set_option linter.unusedSimpArgs false
set_option linter.unusedVariables false
set_option linter.unusedSectionVars false
namespace Go.Dx

/-- Is an operation among those that were done? -/
def Lst (listed : Array Bool) (j : Nat) : Prop := listed.getD j false = true

instance (listed : Array Bool) (j : Nat) : Decidable (Lst listed j) := by unfold Lst; infer_instance

theorem lst_not {listed : Array Bool} {j : Nat} (h : listed.getD j true = false) : ¬Lst listed j ∧ j < listed.size := by
  unfold Lst
  rcases Nat.lt_or_ge j listed.size with hl | hl
  · simp [hl] at h ⊢; exact h
  · simp [Array.getElem?_eq_none hl] at h

theorem lst_of_not {listed : Array Bool} {j : Nat} (hj : j < listed.size) (h : ¬Lst listed j) : listed.getD j true = false := by
  unfold Lst at h
  simp [hj] at h ⊢
  exact h

theorem lst_set {listed : Array Bool} {i j : Nat} (hi : i < listed.size) : Lst (listed.setIfInBounds i true) j ↔ j = i ∨ Lst listed j := by
  unfold Lst
  by_cases e : i = j
  · subst e; simp [hi]
  · rw [getD_set_ne false e]
    constructor
    · exact .inr
    · rintro (h | h)
      · exact absurd h.symm e
      · exact h

theorem idx_congr {F G : Nat → Option Tmp} {t : Tmp} : ∀ {l : List Nat}, (∀ j ∈ l, (F j = some t ↔ G j = some t)) → (l.map F).idxOf? (some t) = (l.map G).idxOf? (some t) := by
  intro l
  induction l with
  | nil => intro _; rfl
  | cons j l ih =>
    intro hh
    simp only [List.map_cons, List.idxOf?_cons]
    rw [ih fun k hk => hh k (by simp [hk])]
    have h1 := hh j (by simp)
    by_cases e : F j = some t
    · rw [e, h1.1 e]
    · have e2 : ¬G j = some t := fun h => e (h1.2 h)
      have b1 : (F j == some t) = false := by simpa using e
      have b2 : (G j == some t) = false := by simpa using e2
      rw [b1, b2]

theorem idx_get {t : Option Tmp} : ∀ {l : List (Option Tmp)} {k : Nat}, l.idxOf? t = some k → l[k]? = some t := by
  intro l
  induction l with
  | nil => intro k h; simp at h
  | cons x l ih =>
    intro k h
    rw [List.idxOf?_cons] at h
    split at h
    · rename_i e
      cases h
      have : x = t := by simpa using e
      simp [this]
    · obtain ⟨j, hj, rfl⟩ := Option.map_eq_some_iff.1 h
      simpa using ih hj

theorem backsOf_ge {p : List Nat} : ∀ {pre r : List Nat}, (∀ i ∈ pre, i ∉ p) → pre.length ≤ backsOf p (pre ++ r) := by
  intro pre
  induction pre with
  | nil => intro r _; simp
  | cons i pre ih =>
    intro r hh
    simp only [List.cons_append, backsOf, List.length_cons]
    have : p.contains i = false := by
      cases hc : p.contains i with
      | false => rfl
      | true => exact (hh i (by simp) (List.contains_iff_mem.1 hc)).elim
    rw [this]
    simp only [Bool.false_eq_true, if_false]
    have := ih (r := r) fun j hj => hh j (by simp [hj])
    omega

section
variable {P : Program} {C : Ctx} {ops : Array Oper} {pr : List (List Nat)} {call : Nat → AV → Heap → Option (CR × Heap)}
variable {n : Nat} {st : Nat → DS} {id : Nat → Nat} {h : Nat → Bool} {f : Nat → Option (Pos × AO)} {vl : Nat → AV}
variable {ρ0 ρ : Ren} {H0 : Heap} {w0 w : World} {a0 a : Act} {listed : Array Bool} {m : Nat}

structure Inv (P : Program) (C : Ctx) (ops : Array Oper) (pr : List (List Nat)) (n : Nat) (st : Nat → DS) (id : Nat → Nat) (h : Nat → Bool) (f : Nat → Option (Pos × AO)) (vl : Nat → AV) (ρ0 : Ren) (H0 : Heap) (w0 : World) (a0 : Act)
    (listed : Array Bool) (a : Act) (w : World) (ρ : Ren) (m : Nat) : Prop where
  sz : listed.size = ops.size
  mn : m ≤ n
  low : ∀ p, p < m → Lst listed (id p)
  high : ∀ p, m ≤ p → p < n → h p = true → ¬Lst listed (id p)
  closed : ∀ j, Lst listed j → ∀ k ∈ pr.getD j [], Lst listed k
  rel : HRel P C.ng ρ (EAt st f m n) w
  stp : Step ρ0 H0 w0 ρ (EAt st f m n) w
  vals : ∀ p, p < n → Lst listed (id p) → ∀ d, dstOf ops (id p) = some d → ∃ x, a.tmps[d]? = some x ∧ RX ρ (vl p) [x]
  rest : ∀ t : Tmp, (∀ p, p < n → Lst listed (id p) → dstOf ops (id p) ≠ some t) → a.tmps[t]? = a0.tmps[t]?
  tsz : a.tmps.size = a0.tmps.size
  dfs : a.defers = a0.defers
  tocome : ∀ p q o, p < n → f p = some (q, o) → ¬Lst listed (id p) → ρ q = none
  names : ∀ q ∈ (st m).R, q.num < (st m).H.next.num ∧ (st m).H.live q = false ∧ H0.next.num ≤ q.num

theorem Inv.namesAt (I : Inv P C ops pr n st id h f vl ρ0 H0 w0 a0 listed a w ρ m) (W : Way P C ops pr call n st id h f vl) {p : Nat} (hmp : m ≤ p) (hp : p ≤ n) : ∀ q ∈ (st p).R, q.num < (EAt st f m p).next.num ∧ (EAt st f m p).live q = false ∧ H0.next.num ≤ q.num := by
  intro q hq
  obtain ⟨l, hl⟩ := W.suffix hmp hp
  obtain ⟨h1, h2, h3⟩ := I.names q (by rw [hl]; simp [hq])
  refine ⟨by unfold EAt; rw [adds_next]; exact h1, ?_, h3⟩
  have hg : (EAt st f m p).get q = (st m).H.get q := by
    unfold EAt
    rw [adds_get]
    cases hk : look f q m (p - m) with
    | none => rfl
    | some o =>
      obtain ⟨r, k1, k2, k3⟩ := look_some f q _ _ _ hk
      exact (W.name_out (r := r) (p := p) (by omega) hp k3 hq).elim
  rw [live_congr hg]
  exact h2

theorem Inv.over (I : Inv P C ops pr n st id h f vl ρ0 H0 w0 a0 listed a w ρ m) (W : Way P C ops pr call n st id h f vl) {p : Nat} (hmp : m ≤ p) (hp : p ≤ n) : Over (EAt st f m p) (fun q => look f q p (n - p)) (EAt st f m n) where
  get := fun q => by
    have : EAt st f m n = adds f p (n - p) (EAt st f m p) := by
      unfold EAt
      rw [show n - m = (p - m) + (n - p) by omega, adds_add]
      congr 1
      omega
    rw [this, adds_get]
  next := by unfold EAt; rw [adds_next, adds_next]
  free := fun q o hq => by
    obtain ⟨r, k1, k2, k3⟩ := look_some f q _ _ _ hq
    have hm := W.name_mem (m := p) (r := r) k1 (by omega) k3
    obtain ⟨h1, h2, _⟩ := I.namesAt W hmp hp q hm
    exact ⟨h2, h1⟩

theorem Inv.env (I : Inv P C ops pr n st id h f vl ρ0 H0 w0 a0 listed a w ρ m) (W : Way P C ops pr call n st id h f vl) (hF0 : FRel C ρ0 (st 0).fr a0.tmps) {p : Nat} (hp : p < n) (hX : ¬Lst listed (id p)) (hpr : ∀ k ∈ pr.getD (id p) [], Lst listed k) {E : Heap} (hE : HRel P C.ng ρ E w) {o : Oper} (ho : ops[id p]? = some o) :
    ∃ C' ns', C'.ng = C.ng ∧ Env P C' ρ ns' (st p).ls (st p).fr a E w ∧ guardP ops ns' o.guard = guardP ops (namesOf ops (st p).done) o.guard ∧ opP P C' ns' o.op = opP P C (namesOf ops (st p).done) o.op := by
  classical
  obtain ⟨o', ho', hpl'⟩ := (W.facts hp).op
  rw [ho] at ho'
  cases ho'
  have hpl := placed_spec hpl'
  -- what it looks at, and was done ahead in the one order, was done
  have seen : ∀ t ∈ o.looksAt ops, ∀ j ∈ (st p).done, dstOf ops j = some t → Lst listed j := by
    intro t ht j hj hd
    rcases hpl.2.2.2.2 j hj with hk | ⟨x, hx, hap⟩
    · exact hpr j hk
    · have hxd : x.dst = some t := by unfold dstOf at hd; rw [hx] at hd; exact hd
      exact ((Oper.apart_spec hap).1 t hxd ht).elim
  let ns' : List (Option Tmp) := (st p).done.map fun j => if Lst listed j then dstOf ops j else none
  let far' : Nat → Bool := fun t => C.far t && decide (∀ q, q < n → (Lst listed (id q) ∨ q < p) → dstOf ops (id q) ≠ some t)
  have hname : ∀ t ∈ o.looksAt ops, nameAt ns' t = nameAt (namesOf ops (st p).done) t := by
    intro t ht
    unfold nameAt
    refine idx_congr fun j hj => ?_
    by_cases e : Lst listed j
    · rw [if_pos e]; exact Iff.rfl
    · rw [if_neg e]
      constructor
      · intro h; cases h
      · intro h; exact (e (seen t ht j hj h)).elim
  have hopd : ∀ x ∈ o.op.operands, opd { C with far := far' } ns' x = opd C (namesOf ops (st p).done) x := by
    intro x hx
    cases x with
    | tmp t =>
      have ht : t ∈ o.looksAt ops := List.mem_append_left _ (List.mem_filterMap.2 ⟨.tmp t, by simpa using hx, rfl⟩)
      simp only [opd]
      rw [hname t ht]
      cases hn : nameAt (namesOf ops (st p).done) t with
      | some j => rfl
      | none =>
        have : far' t = C.far t := by
          have : (∀ q, q < n → (Lst listed (id q) ∨ q < p) → dstOf ops (id q) ≠ some t) := by
            intro q hq hor hd
            rcases Nat.lt_trichotomy q p with hlt | heq | hgt
            · unfold nameAt at hn
              rw [List.idxOf?_eq_none_iff] at hn
              exact hn (List.mem_map.2 ⟨id q, (W.mem (by omega) _).2 ⟨q, hlt, rfl⟩, hd⟩)
            · subst heq
              rcases hor with h | h
              · exact hX h
              · omega
            · rcases hor with hl | h
              · obtain ⟨oq, hoq, hplq⟩ := (W.facts hq).op
                rcases (placed_spec hplq).2.2.2.2 (id p) ((W.mem (by omega) _).2 ⟨p, hgt, rfl⟩) with hk | ⟨x, hx', hap⟩
                · exact hX (I.closed _ hl _ hk)
                · rw [ho] at hx'
                  cases hx'
                  have hqd : oq.dst = some t := by unfold dstOf at hd; rw [hoq] at hd; exact hd
                  exact (Oper.apart_spec hap).2.2 t hqd ht
              · omega
          show (C.far t && decide _) = C.far t
          rw [decide_eq_true this, Bool.and_true]
        simp only [this]
    | const v => rfl
    | global g => rfl
    | func g => rfl
  refine ⟨{ C with far := far' }, ns', rfl, ⟨⟨?_, ?_⟩, ?_, hE⟩, ?_, opP_congr hopd⟩
  · rw [I.tsz]; exact hF0.size
  · intro t v ht hv
    have ht' : (C.far t && decide (∀ q, q < n → (Lst listed (id q) ∨ q < p) → dstOf ops (id q) ≠ some t)) = true := ht
    simp only [Bool.and_eq_true, decide_eq_true_eq] at ht'
    rcases W.frAt (Nat.le_of_lt hp) t v ht'.1 hv with ⟨q, h1, h2, _⟩ | ⟨h1, h2⟩
    · exact (ht'.2 q (by omega) (.inr h1) h2).elim
    · obtain ⟨x, hx, hr⟩ := hF0.far t v ht'.1 h2
      refine ⟨x, ?_, hr.mono I.stp.ext⟩
      rw [I.rest t fun q hq hl => ht'.2 q hq (.inl hl)]
      exact hx
  · intro t k v hn hv
    have hk := idx_get hn
    rw [List.getElem?_map] at hk
    obtain ⟨j, hj, e⟩ := Option.map_eq_some_iff.1 hk
    obtain ⟨q, h1, h2, h3⟩ := W.nth (Nat.le_of_lt hp) k j hj
    have h3 := h3 v hv
    by_cases e2 : Lst listed j
    · rw [if_pos e2] at e
      subst h2
      obtain ⟨x, hx, hr⟩ := I.vals q (by omega) e2 t e
      exact ⟨x, hx, by rw [h3]; exact hr⟩
    · rw [if_neg e2] at e; cases e
  · cases hg : o.guard with
    | none => rfl
    | some gb =>
      obtain ⟨j, b⟩ := gb
      simp only [guardP]
      cases hd : (ops[j]?).bind (·.dst) with
      | none => rfl
      | some d =>
        have : d ∈ o.looksAt ops := List.mem_append_right _ (by rw [hg]; simp [hd])
        simp only [hname d this]

/-- What is to be shown, when one more was done. -/
theorem Inv.next (I : Inv P C ops pr n st id h f vl ρ0 H0 w0 a0 listed a w ρ m) (W : Way P C ops pr call n st id h f vl) {p : Nat} (hp : p < n) (hF0 : FRel C ρ0 (st 0).fr a0.tmps) (hX : ¬Lst listed (id p)) (hpr : ∀ k ∈ pr.getD (id p) [], Lst listed k) {o : Oper} (ho : ops[id p]? = some o) {x : Value} {ρ' : Ren} {w' : World} {m' : Nat}
    (hext : Ext ρ ρ') (hx : RX ρ' (vl p) [x]) (hrel : HRel P C.ng ρ' (EAt st f m' n) w') (hstp : Step ρ0 H0 w0 ρ' (EAt st f m' n) w') (hm' : m' ≤ n) (hlow : ∀ q, q < m' → Lst listed (id q) ∨ q = p)
    (hhigh : ∀ q, m' ≤ q → q < n → h q = true → ¬Lst listed (id q) ∧ q ≠ p) (htc : ∀ q nm ob, q < n → f q = some (nm, ob) → ¬Lst listed (id q) → q ≠ p → ρ' nm = none)
    (hnm : ∀ q ∈ (st m').R, q.num < (st m').H.next.num ∧ (st m').H.live q = false ∧ H0.next.num ≤ q.num) :
    Inv P C ops pr n st id h f vl ρ0 H0 w0 a0 (listed.setIfInBounds (id p) true) (a.put o.dst x) w' ρ' m' := by
  have hlt : id p < listed.size := by
    rw [I.sz]
    exact (Array.getElem?_eq_some_iff.1 ho).1
  have hdst : dstOf ops (id p) = o.dst := by unfold dstOf; rw [ho]; rfl
  have hset : ∀ q, q < n → (Lst (listed.setIfInBounds (id p) true) (id q) ↔ q = p ∨ Lst listed (id q)) := by
    intro q hq
    rw [lst_set hlt]
    constructor
    · rintro (e | e)
      · exact .inl (W.inj hq hp e)
      · exact .inr e
    · rintro (e | e)
      · exact .inl (by rw [e])
      · exact .inr e
  have hdlt : ∀ d, o.dst = some d → d < a.tmps.size := by
    intro d hd
    have h1 := (W.facts hp).dst
    rw [hdst, hd] at h1
    rw [I.tsz]
    exact Nat.lt_of_lt_of_le (dstOk_lt h1).1 hF0.size
  refine ⟨by rw [Array.size_setIfInBounds]; exact I.sz, hm', ?_, ?_, ?_, hrel, hstp, ?_, ?_, by rw [put_size]; exact I.tsz, by rw [put_defers]; exact I.dfs, ?_, hnm⟩
  · intro q hq
    rw [hset q (by omega)]
    rcases hlow q hq with h | h
    · exact .inr h
    · exact .inl h
  · intro q h1 h2 h3 h4
    rw [hset q h2] at h4
    obtain ⟨k1, k2⟩ := hhigh q h1 h2 h3
    rcases h4 with h4 | h4
    · exact k2 h4
    · exact k1 h4
  · intro j hj k hk
    rw [lst_set hlt] at hj ⊢
    rcases hj with rfl | hj
    · exact .inr (hpr k hk)
    · exact .inr (I.closed j hj k hk)
  · intro q hq hl d hd
    rw [hset q hq] at hl
    by_cases e : q = p
    · subst e
      rw [hdst] at hd
      rw [hd]
      exact ⟨x, put_tmps_eq (hdlt d hd), hx⟩
    · have hl := hl.resolve_left e
      obtain ⟨y, hy, hr⟩ := I.vals q hq hl d hd
      refine ⟨y, ?_, hr.mono hext⟩
      rw [put_tmps_ne ?_]
      · exact hy
      · rw [← hdst]
        rcases Nat.lt_trichotomy q p with hh | hh | hh
        · exact W.dst_ne hh hp hd
        · exact (e hh).elim
        · intro e2; exact W.dst_ne hh hq e2 hd
  · intro t ht
    rw [put_tmps_ne]
    · exact I.rest t fun q hq hl => ht q hq ((hset q hq).2 (.inr hl))
    · rw [← hdst]
      exact ht p hp ((hset p hp).2 (.inl rfl))
  · intro q nm ob hq hf hl
    rw [hset q hq] at hl
    exact htc q nm ob hq hf (fun h => hl (.inr h)) (fun h => hl (.inl h))

end
end Go.Dx
