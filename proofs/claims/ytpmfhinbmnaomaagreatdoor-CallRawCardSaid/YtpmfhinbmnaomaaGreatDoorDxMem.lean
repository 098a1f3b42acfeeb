/-
  Reading and writing cells: the model's loops over cells, and the deterministic semantics' trees.
-/
import Derived.Test.YtpmfhinbmnaomaaGreatDoorDxHeap
set_option linter.unusedSimpArgs false
set_option linter.unusedVariables false
set_option linter.unusedSectionVars false
namespace Go.Dx
variable {P : Program}

theorem addr_add (b o i : Nat) : Addr.add ⟨b, o, none⟩ i = ⟨b, o + i, none⟩ := by
  unfold Addr.add
  split
  · rename_i h; simp [h]
  · rfl

theorem run_bind {α β : Type} (P : Program) (s : Sem α) (f : α → Sem β) (w : World) :
    (s.bind f).run P w = match s.run P w with
      | .ok a w' => (f a).run P w'
      | .halt h w' => .halt h w' := by
  induction s generalizing w with
  | pure a => rfl
  | load m a k ih =>
    simp only [Sem.bind, Sem.run]
    split
    · exact ih _ _
    · split
      · exact ih _ _
      · rfl
  | store m a v k ih =>
    cases v <;> simp only [Sem.bind, Sem.run] <;> (try rfl) <;> (split <;> (split <;> (try rfl) <;> exact ih _))
  | new o k ih => simp only [Sem.bind, Sem.run]; exact ih _ _
  | shape r k ih => simp only [Sem.bind, Sem.run]; exact ih _ _
  | freeze a n k ih => simp only [Sem.bind, Sem.run]; exact ih _
  | frozen a k ih => simp only [Sem.bind, Sem.run]; exact ih _ _
  | getObj r k ih => simp only [Sem.bind, Sem.run]; split <;> (try rfl); exact ih _ _
  | setObj r o k ih => simp only [Sem.bind, Sem.run]; split <;> (try rfl); exact ih _
  | choose q k ih => simp only [Sem.bind, Sem.run]; split <;> exact ih _ _
  | sys c k ih => simp only [Sem.bind, Sem.run]; exact ih _ _
  | program k ih => simp only [Sem.bind, Sem.run]; exact ih _ _
  | mark m k ih => simp only [Sem.bind, Sem.run]; exact ih _
  | halt h => rfl

/-- The monad's bind, run. -/
theorem runB {α β : Type} {P : Program} {s : Sem α} {f : α → Sem β} {w w' : World} {a : α} (h : s.run P w = .ok a w') : (s >>= f).run P w = (f a).run P w' := by
  show (s.bind f).run P w = _
  rw [run_bind, h]
theorem runP {α : Type} (P : Program) (a : α) (w : World) : (pure a : Sem α).run P w = .ok a w := rfl

theorem run_load {P : Program} {w : World} {a : Addr} {x : Value} (h : w.cell? a = some x) : (load a).run P w = .ok x w := by
  unfold load
  simp [Sem.run, h]

theorem cell_eq {w : World} {b o : Nat} {c : Array Value} {e : TypeId} {fr : Nat × Nat} (h : w.heap[b]? = some (.cells c e fr)) : w.cell? ⟨b, o, none⟩ = c[o]? := by
  unfold World.cell?
  simp [h]

theorem run_loadCellsFrom {P : Program} {w : World} {b : Nat} {c : Array Value} {e : TypeId} {fr : Nat × Nat} (hb : w.heap[b]? = some (.cells c e fr)) (o : Nat) :
    ∀ (n i : Nat) (acc : Array Value) (xs : List Value), xs.length = n → (∀ j, j < n → c[o + i + j]? = xs[j]?) →
    (loadCellsFrom ⟨b, o, none⟩ i n acc).run P w = .ok (acc ++ xs.toArray) w := by
  intro n
  induction n with
  | zero => intro i acc xs hl _; cases xs with
    | nil => show (pure acc : Sem (Array Value)).run P w = _; rw [runP]; simp
    | cons x xs => simp at hl
  | succ n ih =>
    intro i acc xs hl hx
    cases xs with
    | nil => simp at hl
    | cons x xs =>
      have h0 := hx 0 (by omega)
      unfold loadCellsFrom
      rw [addr_add, runB (run_load (x := x) (by rw [cell_eq hb]; simpa using h0))]
      rw [ih (i + 1) (acc.push x) xs (by simpa using hl) (fun j hj => by have := hx (j + 1) (by omega); simp at this; rw [← this]; congr 1; omega)]
      simp

section
variable {ng : Nat} {ρ : Ren} {H : Heap} {w : World}

theorem HRel.row (h : HRel P ng ρ H w) {p : Pos} {t : Tr AV} {n : Nat} {op : Bool} {L : Loc} (hp : H.get p = some (.cells t n op)) (hL : ρ p = some L) :
    HO ρ w L (.cells t n op) := h.objs p _ L hp (by simp) hL

theorem HRel.cell (h : HRel P ng ρ H w) {p : Pos} {off : Nat} {v : AV} {L : Loc} (hc : H.cell p off = some v) (hL : ρ p = some L) :
    ∃ x, w.cell? ⟨L.b, L.base + off, none⟩ = some x ∧ RX ρ v [x] := by
  unfold Heap.cell at hc
  split at hc
  · rename_i t n op hp
    obtain ⟨c, e, fr, h1, h2, h3, h4, h5, h6⟩ := h.row hp hL
    obtain ⟨_, x, hx, hr, _⟩ := h5 off v hc
    exact ⟨x, by rw [cell_eq h1]; exact hx, hr⟩
  · rename_i t hp
    obtain ⟨c, e, fr, h1, h5⟩ := h.objs p _ L hp (by simp) hL
    obtain ⟨x, hx, hr, _⟩ := h5 off v hc
    exact ⟨x, by rw [cell_eq h1]; exact hx, hr⟩
  · cases hc

theorem cellsFrom_rel {c : Array Value} {base : Nat} {t : Tr AV} {m : Nat} (h : ∀ i v, t.get (key i) = some v → i < m ∧ ∃ x, c[base + i]? = some x ∧ RX ρ v [x] ∧ isCell v = true) :
    ∀ (n o : Nat) (cs : AV), cellsFrom t o n = some cs → ∃ xs : List Value, xs.length = n ∧ RX ρ cs xs ∧ cs.isList = true ∧ cs.len = n ∧ (∀ j, j < n → c[base + o + j]? = xs[j]?) ∧ (∀ j u, cs.nth j = some u → isCell u = true) ∧ (n = 0 ∨ o + n ≤ m) := by
  intro n
  induction n with
  | zero => intro o cs hc; simp [cellsFrom] at hc; subst hc; exact ⟨[], rfl, rfl, rfl, rfl, fun j hj => by omega, fun j u hu => by simp [AV.nth] at hu, .inl rfl⟩
  | succ n ih =>
    intro o cs hc
    simp only [cellsFrom, Option.bind_eq_bind, Option.bind_eq_some_iff] at hc
    obtain ⟨v, hv, r, hr, e⟩ := hc
    cases e
    obtain ⟨hm, x, hx, hR, hI⟩ := h o v hv
    obtain ⟨xs, h1, h2, h3, h4, h5, h6, h7⟩ := ih (o + 1) r hr
    refine ⟨x :: xs, by simp [h1], ⟨x, xs, rfl, hR, h2⟩, h3, by simp [AV.len, h4], ?_, ?_, .inr (by omega)⟩
    · intro j hj
      cases j with
      | zero => simpa using hx
      | succ j => have := h5 j (by omega); simp; rw [← this]; congr 1; omega
    · intro j u hu
      cases j with
      | zero => simp [AV.nth] at hu; subst hu; exact hI
      | succ j => exact h6 j u hu

theorem HRel.cells (h : HRel P ng ρ H w) {p : Pos} {off n : Nat} {cs : AV} {L : Loc} (hc : H.cellsAt p off n = some cs) (hL : ρ p = some L) :
    ∃ xs : List Value, (∀ w' : World, w'.heap = w.heap → (loadCells ⟨L.b, L.base + off, none⟩ n).run P w' = .ok xs.toArray w') ∧ RX ρ cs xs ∧ cs.isList = true ∧ cs.len = n ∧ (∀ j u, cs.nth j = some u → isCell u = true) := by
  unfold Heap.cellsAt at hc
  split at hc
  · rename_i t m op hp
    obtain ⟨c, e, fr, h1, h2, h3, h4, h5, h6⟩ := h.row hp hL
    obtain ⟨xs, x1, x2, x3, x4, x5, x6, _⟩ := cellsFrom_rel h5 n off cs hc
    refine ⟨xs, fun w' hw' => ?_, x2, x3, x4, x6⟩
    have := run_loadCellsFrom (P := P) (w := w') (by rw [hw']; exact h1) (L.base + off) n 0 #[] xs x1 (fun j hj => by simpa using x5 j hj)
    simpa [loadCells] using this
  · rename_i t hp
    obtain ⟨c, e, fr, h1, h5⟩ := h.objs p _ L hp (by simp) hL
    have h5' : ∀ i v, t.get (key i) = some v → i < c.size ∧ ∃ x, c[L.base + i]? = some x ∧ RX ρ v [x] ∧ isCell v = true := fun i v hv => by
      obtain ⟨x, hx, h⟩ := h5 i v hv
      refine ⟨?_, x, hx, h⟩
      rcases Nat.lt_or_ge (L.base + i) c.size with hh | hh
      · omega
      · rw [Array.getElem?_eq_none hh] at hx; cases hx
    obtain ⟨xs, x1, x2, x3, x4, x5, x6, _⟩ := cellsFrom_rel h5' n off cs hc
    refine ⟨xs, fun w' hw' => ?_, x2, x3, x4, x6⟩
    have := run_loadCellsFrom (P := P) (w := w') (by rw [hw']; exact h1) (L.base + off) n 0 #[] xs x1 (fun j hj => by simpa using x5 j hj)
    simpa [loadCells] using this
  · cases hc

/-- A cell's value is no struct, array or tuple. -/
theorem isCell_value {v : AV} {x : Value} (hr : RX ρ v [x]) (hi : isCell v = true) : (∀ cs, x ≠ .agg cs) ∧ (∀ cs, x ≠ .tuple cs) := by
  cases v <;> simp [isCell] at hi <;> simp only [RX] at hr
  case sym => obtain ⟨_, _, _, _, e⟩ := hr; cases e; simp
  case bool => cases hr; simp
  case int => obtain ⟨_, e⟩ := hr; cases e; simp
  case str => obtain ⟨_, e⟩ := hr; cases e; simp
  case ptr => obtain ⟨_, _, e⟩ := hr; cases e; simp
  case nilptr => cases hr; simp
  case slice => obtain ⟨_, _, _, e⟩ := hr; cases e; simp
  case oslice =>
    obtain ⟨_, _, h⟩ := hr
    rcases h with ⟨_, _, _, e⟩ | ⟨_, _, _, e⟩ <;> cases e <;> simp
  case nilslice => cases hr; simp
  case map => obtain ⟨_, _, e⟩ := hr; cases e; simp
  case nilmap => cases hr; simp
  case func => obtain ⟨_, _, _, _, e, _⟩ := hr; cases e; simp
  case nilfunc => cases hr; simp
  case iface => obtain ⟨_, e, _⟩ := hr; cases e; simp
  case niliface => cases hr; simp
  case yield => obtain ⟨_, _, e⟩ := hr; cases e; simp

theorem run_store {P : Program} {w : World} {b o : Nat} {c : Array Value} {e : TypeId} {fr : Nat × Nat} {x : Value} (hb : w.heap[b]? = some (.cells c e fr)) (ho : o < c.size)
    (hf : (fr.1 ≤ o && o < fr.2) = false) (h1 : ∀ cs, x ≠ .agg cs) (h2 : ∀ cs, x ≠ .tuple cs) :
    (store ⟨b, o, none⟩ x).run P w = .ok () (w.setCell ⟨b, o, none⟩ x) := by
  have hc : w.cell? ⟨b, o, none⟩ = some c[o] := by rw [cell_eq hb]; simp [ho]
  have hz : w.frozen? ⟨b, o, none⟩ = false := by
    unfold World.frozen?
    simp [hb]
    simpa using hf
  unfold store
  cases x <;> first | exact absurd rfl (h1 _) | exact absurd rfl (h2 _) | simp [Sem.run, hc, hz]

theorem setCell_block {w : World} {b o : Nat} {c : Array Value} {e : TypeId} {fr : Nat × Nat} {x : Value} (hb : w.heap[b]? = some (.cells c e fr)) :
    (w.setCell ⟨b, o, none⟩ x).heap[b]? = some (.cells (c.setIfInBounds o x) e fr) := by
  simp [World.setCell, Array.getElem?_modify, hb]

theorem run_storeCells {P : Program} {b : Nat} {e : TypeId} {fr : Nat × Nat} (o : Nat) : ∀ (xs : List Value) (i : Nat) (c : Array Value) (w : World), w.heap[b]? = some (.cells c e fr) →
    o + i + xs.length ≤ c.size → (∀ j, j < c.size → (fr.1 ≤ j && j < fr.2) = false) → (∀ x ∈ xs, (∀ cs, x ≠ .agg cs) ∧ (∀ cs, x ≠ .tuple cs)) →
    ∃ c' w', (storeCells ⟨b, o, none⟩ xs i).run P w = .ok () w' ∧ w'.heap[b]? = some (.cells c' e fr) ∧ c'.size = c.size ∧ w'.heap.size = w.heap.size ∧ (∀ b', b' ≠ b → w'.heap[b']? = w.heap[b']?) ∧
      w'.os = w.os ∧ w'.tape = w.tape ∧ w'.output = w.output ∧
      (∀ j, (j < o + i ∨ o + i + xs.length ≤ j) → c'[j]? = c[j]?) ∧ (∀ j, j < xs.length → c'[o + i + j]? = xs[j]?) := by
  intro xs
  induction xs with
  | nil => intro i c w hb _ _ _; exact ⟨c, w, rfl, hb, rfl, rfl, fun _ _ => rfl, rfl, rfl, rfl, fun _ _ => rfl, fun j hj => by simp at hj⟩
  | cons x xs ih =>
    intro i c w hb hlen hfr hcell
    simp only [List.length_cons] at hlen
    obtain ⟨hx1, hx2⟩ := hcell x (by simp)
    have hst := run_store (P := P) hb (o := o + i) (by omega) (hfr _ (by omega)) hx1 hx2
    have hb1 := setCell_block (o := o + i) (x := x) hb
    obtain ⟨c', w', r1, r2, r3, r4, r5, r6, r7, r8, r9, r10⟩ := ih (i + 1) (c.setIfInBounds (o + i) x) _ hb1 (by simp; omega) (by simpa using hfr) (fun y hy => hcell y (by simp [hy]))
    refine ⟨c', w', ?_, r2, by simpa using r3, by rw [r4]; simp [World.setCell], ?_, by rw [r6]; rfl, by rw [r7]; rfl, by rw [r8]; rfl, ?_, ?_⟩
    · unfold storeCells
      rw [addr_add, runB hst, r1]
    · intro b' hb'
      rw [r5 b' hb']
      simp only [World.setCell, Array.getElem?_modify]
      rw [if_neg (by omega)]
    · intro j hj
      simp only [List.length_cons] at hj
      rw [r9 j (by omega), Array.getElem?_setIfInBounds_ne (by omega)]
    · intro j hj
      cases j with
      | zero =>
        rw [r9 (o + i + 0) (by omega)]
        show (c.setIfInBounds (o + i) x)[o + i]? = some x
        rw [Array.getElem?_setIfInBounds_self_of_lt (by omega)]
      | succ j =>
        have := r10 j (by simpa using hj)
        simp
        rw [← this]; congr 1; omega

/-- What 'putCells' does to a tree. -/
theorem putCells_get : ∀ (vs : AV) (t t' : Tr AV) (o : Nat), putCells t o vs = some t' → vs.isList = true ∧
    (∀ j u, vs.nth j = some u → t'.get (key (o + j)) = some u ∧ isCell u = true) ∧ (∀ i, (i < o ∨ o + vs.len ≤ i) → t'.get (key i) = t.get (key i)) := by
  intro vs
  induction vs with
  | nil => intro t t' o h; simp [putCells] at h; subst h; exact ⟨rfl, fun j u hu => by simp [AV.nth] at hu, fun _ _ => rfl⟩
  | cons a r _ ihr =>
    intro t t' o h
    simp only [putCells] at h
    split at h
    · rename_i hi
      obtain ⟨h1, h2, h3⟩ := ihr _ _ _ h
      refine ⟨h1, ?_, ?_⟩
      · intro j u hu
        cases j with
        | zero =>
          simp [AV.nth] at hu; subst hu
          refine ⟨?_, hi⟩
          rw [Nat.add_zero, h3 o (by omega), Tr.get_set_same]
        | succ j =>
          simp only [AV.nth] at hu
          have := h2 j u hu
          rw [show o + 1 + j = o + (j + 1) by omega] at this
          exact this
      · intro i hi'
        simp only [AV.len] at hi'
        rw [h3 i (by omega), Tr.get_set_ne (key_ne (by omega))]
    · cases h
  | _ => intro t t' o h; simp [putCells] at h

theorem nth_of_lt : ∀ {v : AV} {j : Nat}, v.isList = true → j < v.len → ∃ u, v.nth j = some u := by
  intro v
  induction v with
  | cons a r _ ih =>
    intro j hi hj
    cases j with
    | zero => exact ⟨a, rfl⟩
    | succ j => exact ih (j := j) hi (by simp [AV.len] at hj; omega)
  | _ => intro j _ hj; simp [AV.len] at hj

/-- All values of a list of cells are cells'. -/
theorem cells_values {vs : AV} {xs : List Value} (hr : RX ρ vs xs) (hl : vs.isList = true) (hi : ∀ j u, vs.nth j = some u → isCell u = true) :
    ∀ x ∈ xs, (∀ cs, x ≠ .agg cs) ∧ (∀ cs, x ≠ .tuple cs) := by
  intro x hx
  obtain ⟨j, hj, e⟩ := List.mem_iff_getElem.1 hx
  obtain ⟨u, hu⟩ := nth_of_lt hl (by rw [hr.len hl]; exact hj)
  obtain ⟨y, hy, hR⟩ := hr.nth hu
  have : y = x := by rw [List.getElem?_eq_getElem hj] at hy; cases hy; exact e
  subst this
  exact isCell_value hR (hi j u hu)

/-- A store into an object. -/
theorem HRel.store (h : HRel P ng ρ H w) {p : Pos} {off : Nat} {vs : AV} {xs : List Value} {H' : Heap} {L : Loc} (hs : H.store p off vs = some H') (hL : ρ p = some L) (hr : RX ρ vs xs) :
    ∃ w', (storeCells ⟨L.b, L.base + off, none⟩ xs).run P w = .ok () w' ∧ HRel P ng ρ H' w' ∧ Step ρ H w ρ H' w' := by
  unfold Heap.store at hs
  split at hs
  · rename_i t n op hp
    split at hs
    · rename_i hn
      simp only [Option.map_eq_some_iff] at hs
      obtain ⟨t', ht, rfl⟩ := hs
      obtain ⟨hl, hg1, hg2⟩ := putCells_get _ _ _ _ ht
      obtain ⟨c, e, fr, h1, h2, h3, h4, h5, h6⟩ := h.row hp hL
      have hlen := hr.len hl
      obtain ⟨c', w', r1, r2, r3, r4, r5, r6, r7, r8, r9, r10⟩ := run_storeCells (P := P) (L.base + off) xs 0 c w h1 (by omega) h6 (cells_values hr hl fun j u hu => (hg1 j u hu).2)
      refine ⟨w', r1, h.turn hp (by simp) hL r4 r5 ?_ (by simp), Step.turn h hp (by simp) (by simp) hL r4 r5 r6 r7 r8⟩
      refine ⟨c', e, fr, r2, by rw [r3]; exact h2, by rw [r3]; exact h3, fun ho => ⟨(h4 ho).1, by rw [r3]; exact (h4 ho).2.1, (h4 ho).2.2⟩, ?_, by rw [r3]; exact h6⟩
      intro i v hv
      by_cases hi : off ≤ i ∧ i < off + vs.len
      · obtain ⟨u, hu⟩ := nth_of_lt (j := i - off) hl (by omega)
        obtain ⟨hu1, hu2⟩ := hg1 _ _ hu
        rw [show off + (i - off) = i by omega] at hu1
        rw [hu1] at hv; cases hv
        obtain ⟨x, hx, hR⟩ := hr.nth hu
        refine ⟨by omega, x, ?_, hR, hu2⟩
        have := r10 (i - off) (by omega)
        rw [← hx, ← this]; congr 1; omega
      · rw [hg2 i (by omega)] at hv
        obtain ⟨a, x, b, c2, d⟩ := h5 i v hv
        refine ⟨a, x, ?_, c2, d⟩
        rw [r9 (L.base + i) (by omega)]; exact b
    · cases hs
  · cases hs

/-- A new object of cells. -/
theorem HRel.newRow (h : HRel P ng ρ H w) {vs : AV} {op : Bool} {p : Pos} {H' : Heap} {c : Array Value} {elem : TypeId} {fr : Nat × Nat} {w' : World} (hs : H.row vs op = some (p, H'))
    (hw : w'.heap = w.heap.push (.cells c elem fr)) (w1 : w'.os = w.os) (w2 : w'.tape = w.tape) (w3 : w'.output = w.output)
    {xs : List Value} (hr : RX ρ vs xs) (hx : ∀ j, j < xs.length → c[j]? = xs[j]?) (hsz : xs.length ≤ c.size) (hop : op = false → c.size = xs.length ∧ fr = (0, 0)) (hfr : ∀ i, i < c.size → (fr.1 ≤ i && i < fr.2) = false) :
    p = H.next ∧ HRel P ng (ρ.put H.next ⟨w.heap.size, 0, c.size⟩) H' w' ∧ Step ρ H w (ρ.put H.next ⟨w.heap.size, 0, c.size⟩) H' w' ∧ vs.isList = true ∧ vs.len = xs.length := by
  unfold Heap.row treeOf at hs
  simp only [Option.map_eq_some_iff] at hs
  obtain ⟨t, ht, e⟩ := hs
  obtain ⟨hl, hg1, hg2⟩ := putCells_get _ _ _ _ ht
  have hlen := hr.len hl
  have e1 : p = H.next := by rw [show p = (H.new (.cells t vs.len op)).1 by rw [e]]; rfl
  have e2 : H' = (H.new (.cells t vs.len op)).2 := by rw [e]
  subst e2
  refine ⟨e1, h.alloc hw (sz := c.size) ?_ (by simp), Step.alloc h hw w1 w2 w3, hl, hlen⟩
  intro ρ' hext
  refine ⟨c, elem, fr, by rw [hw]; simp, rfl, by show 0 + vs.len ≤ c.size; omega, fun ho => ⟨rfl, by rw [(hop ho).1, hlen], fun i => by rw [(hop ho).2]; simp⟩, ?_, hfr⟩
  intro i v hv
  by_cases hi : i < vs.len
  · obtain ⟨u, hu⟩ := nth_of_lt (j := i) hl hi
    obtain ⟨hu1, hu2⟩ := hg1 _ _ hu
    rw [Nat.zero_add] at hu1
    rw [hu1] at hv; cases hv
    obtain ⟨x, hx', hR⟩ := hr.nth hu
    exact ⟨hi, x, by show c[0 + i]? = _; rw [Nat.zero_add, hx i (by omega), hx'], hR.mono hext, hu2⟩
  · rw [hg2 i (by omega), Tr.get_leaf] at hv
    cases hv

end
end Go.Dx
