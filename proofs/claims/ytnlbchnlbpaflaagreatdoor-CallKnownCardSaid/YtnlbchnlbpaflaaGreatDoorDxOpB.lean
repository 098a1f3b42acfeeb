/-
  Operations, second part: what is moved, made, built, read and written.
-/
import Derived.Test.YtnlbchnlbpaflaaGreatDoorDxKeys
set_option linter.unusedSimpArgs false
set_option linter.unusedVariables false
set_option linter.unusedSectionVars false
namespace Go.Dx

theorem OpOk.ofVal {P : Program} {ng : Nat} {ρ : Ren} {H H' : Heap} {w : World} {s : Sem Value} {v : AV} (h : ∃ ρ' w' x, s.run P w = .ok x w' ∧ RX ρ' v [x] ∧ HRel P ng ρ' H' w' ∧ Step ρ H w ρ' H' w') :
    OpOk P ng ρ H w (do pure (.value (← s))) v H' := by
  obtain ⟨ρ', w', x, h1, h2, h3, h4⟩ := h
  exact ⟨ρ', w', x, _, run_val h1, .inl rfl, h2, h3, h4⟩

theorem OpOk.ofSkip {P : Program} {ng : Nat} {ρ : Ren} {H H' : Heap} {w : World} {s : Sem Unit} (h : ∃ w', s.run P w = .ok () w' ∧ HRel P ng ρ H' w' ∧ Step ρ H w ρ H' w') :
    OpOk P ng ρ H w (do s; pure .skip) undefA H' := by
  obtain ⟨w', h1, h3, h4⟩ := h
  exact ⟨ρ, w', undef, _, run_skip h1, .inr ⟨rfl, rfl⟩, RX.undef ρ, h3, h4⟩

theorem OpOk.pureVal {P : Program} {ng : Nat} {ρ : Ren} {H : Heap} {w : World} {s : Sem Value} {v : AV} {x : Value} (hH : HRel P ng ρ H w) (h : s.run P w = .ok x w) (hx : RX ρ v [x]) :
    OpOk P ng ρ H w (do pure (.value (← s))) v H := .ofVal ⟨ρ, w, x, h, hx, hH, Step.refl ρ H w⟩

/-- One step of a `do` in Option. -/
theorem bindO {α β : Type} {x : Option α} {f : α → Option β} {b : β} (h : x.bind f = some b) : ∃ a, x = some a ∧ f a = some b := Option.bind_eq_some_iff.1 h

section
variable {P : Program} {C : Ctx} {ρ : Ren} {ns : List (Option Tmp)} {ls : AV} {fr : Tr AV} {a : Act} {H H' : Heap} {w : World} {v : AV} {ci : CI} {o : Oper}

theorem ok_mov (E : Env P C ρ ns ls fr a H w) {x : Operand} {y : Opd} (hx : Dx.opd C ns x = some y) (hev : (CI.mov y).ev ls fr H = some (v, H')) : OpOk P C.ng ρ H w (pure (.value (a.eval x))) v H' := by
  obtain ⟨u, hu, e⟩ := bindO hev
  cases e
  exact OpOk.val E.H rfl (E.opd hx hu)

theorem run_asBool (b : Bool) (w : World) : (Go.asBool (.bool b)).run P w = .ok b w := rfl

theorem ok_pick (E : Env P C ρ ns ls fr a H w) {c x y : Operand} {c' x' y' : Opd} (hc : Dx.opd C ns c = some c') (hx : Dx.opd C ns x = some x') (hy : Dx.opd C ns y = some y') (hev : (CI.pick c' x' y').ev ls fr H = some (v, H')) :
    OpOk P C.ng ρ H w (do pure (.value (if ← Go.asBool (a.eval c) then a.eval x else a.eval y))) v H' := by
  obtain ⟨t, ht, hev⟩ := bindO hev
  have go : ∀ b : Bool, t = .bool b → (do pure (.value (if ← Go.asBool (a.eval c) then a.eval x else a.eval y)) : Sem Next).run P w = .ok (.value (if b then a.eval x else a.eval y)) w := by
    intro b hb
    subst hb
    rw [(E.opd hc ht).bool_eq]
    show (Go.asBool (.bool b) >>= fun b => (pure (.value (if b then a.eval x else a.eval y)) : Sem Next)).run P w = _
    rw [runB (run_asBool b w)]
    rfl
  split at hev
  · obtain ⟨z, hz, e⟩ := bindO hev
    cases e
    exact OpOk.val E.H (go true rfl) (E.opd hx hz)
  · obtain ⟨z, hz, e⟩ := bindO hev
    cases e
    exact OpOk.val E.H (go false rfl) (E.opd hy hz)
  · cases hev

/-! New blocks. -/
def pushed (w : World) (o : Obj) : World := { w with heap := w.heap.push o }

theorem run_newRow {elem : TypeId} {cells : Array Value} : (newRow elem cells).run P w = .ok ⟨w.heap.size, 0, none⟩ (pushed w (.cells cells elem)) := rfl

theorem newRow_ok {ng : Nat} (hH : HRel P ng ρ H w) {vs : AV} {p : Pos} (hs : H.row vs false = some (p, H')) (elem : TypeId) {cells : Array Value} (hr : RX ρ vs cells.toList) :
    ∃ ρ' w', (newRow elem cells).run P w = .ok ⟨w.heap.size, 0, none⟩ w' ∧ ρ' p = some ⟨w.heap.size, 0, cells.size⟩ ∧ HRel P ng ρ' H' w' ∧ Step ρ H w ρ' H' w' := by
  obtain ⟨e, h1, h2, _, _⟩ := hH.newRow (op := false) (c := cells) (elem := elem) (fr := (0, 0)) (w' := pushed w (.cells cells elem)) hs rfl rfl rfl rfl hr (fun j _ => by simp) (by simp) (fun _ => ⟨by simp, rfl⟩) (fun i _ => by simp)
  subst e
  exact ⟨_, _, run_newRow, by simp [Ren.put], h1, h2⟩

theorem row_isList {vs : AV} {op : Bool} {q : Pos × Heap} (h : H.row vs op = some q) : vs.isList = true := by
  unfold Heap.row treeOf at h
  simp only [Option.map_eq_some_iff] at h
  obtain ⟨t, ht, _⟩ := h
  exact (putCells_get _ _ _ _ ht).1

theorem zeroCells_run {t : TypeId} {z : AV} (h : zeroCellsP P t = some z) (w : World) : ∃ u n, (zeroValue t).run P w = .ok u w ∧ (∀ ρ, RX ρ z u.cells.toList) ∧ sizeP P t = some n ∧ z.len = n ∧ z.isList = true ∧ u.cells.size = n := by
  unfold zeroCellsP at h
  split at h
  · rename_i z0 n hz hn
    split at h
    · rename_i hc
      cases h
      obtain ⟨u, hu, hr⟩ := run_zero hz w
      have h1 : ∀ ρ, RX ρ z0.cells u.cells.toList := fun ρ => (hr ρ).cells hc.2
      refine ⟨u, n, hu, h1, hn, hc.1, hc.2, ?_⟩
      have := (h1 fun _ => none).len hc.2
      rw [hc.1] at this
      simpa using this.symm
    · cases h
  · cases h

theorem ok_alloc (E : Env P C ρ ns ls fr a H w) {t : TypeId} {z : AV} (hz : zeroCellsP P t = some z) (hev : (CI.alloc z z.len).ev ls fr H = some (v, H')) :
    OpOk P C.ng ρ H w (do pure (.value (← Instr.alloc t true (.tuple #[])))) v H' := by
  simp only [CI.ev, ne_eq, not_true_eq_false, if_false] at hev
  obtain ⟨⟨p, H1⟩, hp, e⟩ := bindO hev
  cases e
  obtain ⟨u, n, h1, h2, h3, h4, h5, h6⟩ := zeroCells_run hz w
  obtain ⟨ρ', w', r1, r2, r3, r4⟩ := newRow_ok (P := P) E.H hp t (h2 ρ)
  refine .ofVal ⟨ρ', w', .pointer (some ⟨w.heap.size, 0, none⟩), ?_, ⟨_, r2, rfl⟩, r3, r4⟩
  unfold Instr.alloc
  rw [runB h1]
  simp only
  unfold newVar
  rw [runB r1]
  rfl

theorem ok_box (E : Env P C ρ ns ls fr a H w) {t : TypeId} {x : Operand} {y : Opd} (hx : Dx.opd C ns x = some y) (hev : (CI.box y).ev ls fr H = some (v, H')) :
    OpOk P C.ng ρ H w (do pure (.value (← Instr.box t (a.eval x)))) v H' := by
  obtain ⟨u, hu, hev⟩ := bindO hev
  obtain ⟨⟨p, H1⟩, hp, e⟩ := bindO hev
  cases e
  obtain ⟨ρ', w', r1, r2, r3, r4⟩ := newRow_ok (P := P) E.H hp t ((E.opd hx hu).cells (row_isList hp))
  refine .ofVal ⟨ρ', w', .pointer (some ⟨w.heap.size, 0, none⟩), ?_, ⟨_, r2, rfl⟩, r3, r4⟩
  unfold Instr.box newVar
  rw [runB r1]
  rfl

/-! Structs that are built. -/
theorem foldl_get (off : Nat) : ∀ (l : List Value) (k : Nat) (cs : Array Value) (j : Nat), off + k + l.length ≤ cs.size →
    ((l.zipIdx k).foldl (fun (cs : Array Value) (p : Value × Nat) => cs.setIfInBounds (off + p.2) p.1) cs)[j]? = if off + k ≤ j ∧ j < off + k + l.length then l[j - (off + k)]? else cs[j]? := by
  intro l
  induction l with
  | nil => intro k cs j h; rw [if_neg (by simp)]; rfl
  | cons x l ih =>
    intro k cs j h
    simp only [List.length_cons] at h ⊢
    simp only [List.zipIdx_cons, List.foldl_cons]
    rw [ih (k + 1) _ j (by simp; omega)]
    by_cases h1 : j = off + k
    · subst h1
      rw [if_neg (by omega), if_pos (by omega), Array.getElem?_setIfInBounds_self_of_lt (by omega), Nat.sub_self]
      rfl
    · rw [Array.getElem?_setIfInBounds_ne (by omega)]
      by_cases h2 : off + (k + 1) ≤ j ∧ j < off + (k + 1) + l.length
      · rw [if_pos h2, if_pos (by omega), show j - (off + k) = (j - (off + (k + 1))) + 1 by omega, List.getElem?_cons_succ]
      · rw [if_neg h2, if_neg (by omega)]

theorem foldl_set (off : Nat) (l : List Value) (cs : Array Value) (h : off + l.length ≤ cs.size) :
    ((l.zipIdx 0).foldl (fun (cs : Array Value) (p : Value × Nat) => cs.setIfInBounds (off + p.2) p.1) cs).toList = cs.toList.take off ++ (l ++ cs.toList.drop (off + l.length)) := by
  apply List.ext_getElem?
  intro j
  rw [Array.getElem?_toList, foldl_get off l 0 cs j (by omega)]
  simp only [Nat.add_zero]
  by_cases h1 : j < off
  · rw [if_neg (by omega), List.getElem?_append_left (by simp; omega), List.getElem?_take_of_lt h1, Array.getElem?_toList]
  · have hl : (cs.toList.take off).length = off := by simp; omega
    rw [List.getElem?_append_right (by rw [hl]; omega), hl]
    by_cases h2 : j < off + l.length
    · rw [if_pos (by omega), List.getElem?_append_left (by omega)]
    · rw [if_neg (by omega), List.getElem?_append_right (by omega), List.getElem?_drop, Array.getElem?_toList]
      congr 1
      omega

/-- A part's value. -/
def pv (f : Operand → Value) (x : Nat × Operand) : Nat × Value := (x.1, f x.2)

theorem fill_rel {place : Nat → Option (Nat × Nat)} (hF : FRel C ρ fr a.tmps) (hL : LRel ρ ns ls a.tmps) (hG : ∀ g, g < C.ng → ∃ sz, ρ (key g) = some ⟨g, 0, sz⟩) :
    ∀ (ps : List (Nat × Operand)) (qs : Parts) (t r : AV) (cs : Array Value), partsP C place ns ps = some qs → Parts.fill ls fr t qs = some r → RX ρ t cs.toList → t.isList = true →
    ∃ cs', Instr.fill place cs (ps.map (pv a.eval)) = some cs' ∧ RX ρ r cs'.toList ∧ r.isList = true ∧ cs'.size = cs.size := by
  intro ps
  induction ps with
  | nil => intro qs t r cs h1 h2 h3 h4; simp [partsP] at h1; subst h1; simp [Parts.fill] at h2; subst h2; exact ⟨cs, rfl, h3, h4, rfl⟩
  | cons p ps ih =>
    obtain ⟨i, x⟩ := p
    intro qs t r cs h1 h2 h3 h4
    simp only [partsP] at h1
    split at h1
    · rename_i off n y rest hp hy hrest
      cases h1
      simp only [Parts.fill] at h2
      obtain ⟨u, hu, h2⟩ := bindO h2
      split at h2
      · rename_i hc
        obtain ⟨c1, c2, c3⟩ := hc
        have hu' := (opd_rel hF hL hG hy hu).cells c3
        have hlen := hu'.len c3
        rw [c1] at hlen
        have htl := h3.len h4
        have hsz : (a.eval x).cells.size = n := by simpa using hlen.symm
        have hts : t.len = cs.size := by simpa using htl
        have hnew : RX ρ (AV.app (t.take off) (AV.app u.cells (t.drop (off + n)))) ((((a.eval x).cells.zipIdx).foldl (fun (cs : Array Value) (p : Value × Nat) => cs.setIfInBounds (off + p.2) p.1) cs).toList) ∧ (AV.app (t.take off) (AV.app u.cells (t.drop (off + n)))).isList = true := by
          obtain ⟨d1, d2⟩ := h3.drop (n := off + n) h4
          obtain ⟨t1, t2⟩ := h3.take (n := off) h4
          have e := foldl_set off (a.eval x).cells.toList cs (by simp [hsz]; omega)
          have e2 : ((a.eval x).cells.zipIdx).foldl (fun (cs : Array Value) (p : Value × Nat) => cs.setIfInBounds (off + p.2) p.1) cs = ((a.eval x).cells.toList.zipIdx 0).foldl (fun (cs : Array Value) (p : Value × Nat) => cs.setIfInBounds (off + p.2) p.1) cs := by
            rw [← Array.foldl_toList]; simp
          rw [e2, e]
          refine ⟨?_, AV.isList_app t2 (AV.isList_app c3 d2)⟩
          simp only [Array.length_toList, hsz]
          exact t1.app t2 (hu'.app c3 d1)
        obtain ⟨cs', q1, q2, q3, q4⟩ := ih rest _ r _ hrest h2 hnew.1 hnew.2
        refine ⟨cs', ?_, q2, q3, ?_⟩
        · simp only [List.map_cons, pv, Instr.fill, hp]
          rw [if_neg (by simp [hsz]; omega)]
          exact q1
        · rw [q4]
          have : ∀ (l : List (Value × Nat)) (cs : Array Value), (l.foldl (fun (cs : Array Value) (p : Value × Nat) => cs.setIfInBounds (off + p.2) p.1) cs).size = cs.size := by
            intro l
            induction l with
            | nil => intro cs; rfl
            | cons p l ih => intro cs; rw [List.foldl_cons, ih]; simp
          rw [← Array.foldl_toList]
          exact this _ _
      · cases h2
    · cases h1

theorem run_places (fs : List Field) : (∀ f ∈ fs, (sizeP P f.type).isSome = true) → ∀ (w : World), (fs.mapM (fun f => do pure (f.offset, ← sizeOf f.type)) : Sem (List (Nat × Nat))).run P w = .ok (fs.map fun f => (f.offset, (sizeP P f.type).getD 0)) w := by
  induction fs with
  | nil => intro _ w; rfl
  | cons f fs ih =>
    intro h w
    rw [List.mapM_cons]
    obtain ⟨n, hn⟩ := Option.isSome_iff_exists.1 (h f (by simp))
    have h1 : (do pure (f.offset, ← sizeOf f.type) : Sem (Nat × Nat)).run P w = .ok (f.offset, n) w := by
      show (sizeOf f.type >>= fun n => (pure (f.offset, n) : Sem (Nat × Nat))).run P w = _
      rw [runB (run_sizeOf hn w)]; rfl
    rw [runB h1, runB (ih (fun g hg => h g (by simp [hg])) w)]
    simp only [List.map_cons, hn, Option.getD_some]
    rfl

theorem fieldsAt_eq {fs : List Field} {j off n : Nat} (h : fieldsAt P fs j = some (off, n)) : ∃ f, fs[j]? = some f ∧ f.offset = off ∧ sizeP P f.type = some n := by
  unfold fieldsAt at h
  split at h
  · rename_i f hf
    split at h
    · rename_i m hm; cases h; exact ⟨f, hf, rfl, hm⟩
    · cases h
  · cases h

theorem fill_congr {p q : Nat → Option (Nat × Nat)} : ∀ (l : List (Nat × Value)) (cs : Array Value), (∀ x ∈ l, p x.1 = q x.1) → Instr.fill p cs l = Instr.fill q cs l := by
  intro l
  induction l with
  | nil => intro cs _; rfl
  | cons x l ih =>
    intro cs h
    obtain ⟨i, u⟩ := x
    have hi : p i = q i := h (i, u) (by simp)
    simp only [Instr.fill]
    rw [hi]
    split
    · rfl
    · split
      · rfl
      · exact ih _ fun x hx => h x (by simp [hx])

theorem partsP_places {place : Nat → Option (Nat × Nat)} : ∀ (ps : List (Nat × Operand)) (qs : Parts), partsP C place ns ps = some qs → ∀ x ∈ ps, ∃ r, place x.1 = some r := by
  intro ps
  induction ps with
  | nil => intro qs _ x hx; cases hx
  | cons p ps ih =>
    obtain ⟨i, y⟩ := p
    intro qs h x hx
    simp only [partsP] at h
    split at h
    · rename_i off n b rest hp hb hrest
      cases hx with
      | head => exact ⟨_, hp⟩
      | tail _ hx => exact ih rest hrest x hx
    · cases h

end
end Go.Dx
