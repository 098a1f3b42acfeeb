/-
  The trees of rows are full: each holds its cells in the one shape that so many cells have. It stays so, whatever is done.
-/
import Derived.Test.YtpmfhinbmnaomaaGreatDoorDxRun
import Derived.Test.YtpmfhinbmnaomaaGreatDoorDxRel
import Derived.Test.YtpmfhinbmnaomaaGreatDoorDxTrace
set_option linter.unusedSimpArgs false
set_option linter.unusedVariables false
set_option linter.unusedSectionVars false
namespace Go.Dx

/-- Has it the one shape of so many cells? -/
def Tr.Full {α : Type} : Tr α → Nat → Prop
  | .leaf, 0 => True
  | .val l _ r, n + 1 => Full l ((n + 1) / 2) ∧ Full r (n / 2)
  | _, _ => False

theorem Tr.Full.leaf {α : Type} : Tr.Full (Tr.leaf : Tr α) 0 := trivial

theorem Tr.Full.ext {α : Type} : ∀ {t t' : Tr α} {n : Nat}, t.Full n → t'.Full n → (∀ p, t.get p = t'.get p) → t = t' := by
  intro t
  induction t with
  | leaf =>
    intro t' n h h' _
    cases n with
    | zero => cases t' <;> first | rfl | exact h'.elim
    | succ n => exact h.elim
  | nod l r _ _ => intro t' n h; cases n <;> exact h.elim
  | val l x r ihl ihr =>
    intro t' n h h' hg
    cases n with
    | zero => exact h.elim
    | succ n =>
      cases t' with
      | leaf => exact h'.elim
      | nod _ _ => exact h'.elim
      | val l' x' r' =>
        obtain ⟨h1, h2⟩ := h
        obtain ⟨h3, h4⟩ := h'
        have e1 : l = l' := ihl h1 h3 fun p => hg (.o p)
        have e2 : r = r' := ihr h2 h4 fun p => hg (.i p)
        have e3 : some x = some x' := hg .h
        cases e3
        rw [e1, e2]

theorem Tr.Full.set {α : Type} : ∀ {t : Tr α} {n : Nat} {p : Pos} {v : α}, t.Full n → p.num ≤ n → (t.set p v).Full n := by
  intro t
  induction t with
  | leaf =>
    intro n p v h hp
    cases n with
    | zero => have := Pos.num_pos p; omega
    | succ n => exact h.elim
  | nod l r _ _ => intro n p v h; cases n <;> exact h.elim
  | val l x r ihl ihr =>
    intro n p v h hp
    cases n with
    | zero => exact h.elim
    | succ n =>
      obtain ⟨h1, h2⟩ := h
      cases p with
      | h => exact ⟨h1, h2⟩
      | o p => exact ⟨ihl h1 (by simp only [Pos.num] at hp; omega), h2⟩
      | i p => exact ⟨h1, ihr h2 (by simp only [Pos.num] at hp; omega)⟩

theorem Tr.Full.add {α : Type} : ∀ {n : Nat} {t : Tr α} {p : Pos} {v : α}, t.Full n → p.num = n + 1 → (t.set p v).Full (n + 1) := by
  intro n t
  induction t generalizing n with
  | leaf =>
    intro p v h hp
    cases n with
    | zero =>
      cases p with
      | h => exact ⟨trivial, trivial⟩
      | o p => have := Pos.num_pos p; simp only [Pos.num] at hp; omega
      | i p => have := Pos.num_pos p; simp only [Pos.num] at hp; omega
    | succ n => exact h.elim
  | nod l r _ _ => intro p v h; cases n <;> exact h.elim
  | val l x r ihl ihr =>
    intro p v h hp
    cases n with
    | zero => exact h.elim
    | succ n =>
      obtain ⟨h1, h2⟩ := h
      cases p with
      | h => simp only [Pos.num] at hp; omega
      | o p =>
        simp only [Pos.num] at hp
        have := ihl (n := (n + 1) / 2) (p := p) (v := v) h1 (by omega)
        refine ⟨?_, ?_⟩
        · rw [show (n + 1 + 1) / 2 = (n + 1) / 2 + 1 by omega]; exact this
        · rw [show (n + 1) / 2 = n / 2 by omega]; exact h2
      | i p =>
        simp only [Pos.num] at hp
        have := ihr (n := n / 2) (p := p) (v := v) h2 (by omega)
        refine ⟨?_, ?_⟩
        · rw [show (n + 1 + 1) / 2 = (n + 1) / 2 by omega]; exact h1
        · rw [show (n + 1) / 2 = n / 2 + 1 by omega]; exact this

theorem Tr.Full.get {α : Type} : ∀ {t : Tr α} {n : Nat}, t.Full n → ∀ p : Pos, (p.num ≤ n → ∃ v, t.get p = some v) ∧ (n < p.num → t.get p = none) := by
  intro t
  induction t with
  | leaf =>
    intro n h p
    cases n with
    | zero => exact ⟨fun hp => by have := Pos.num_pos p; omega, fun _ => Tr.get_leaf p⟩
    | succ n => exact h.elim
  | nod l r _ _ => intro n h; cases n <;> exact h.elim
  | val l x r ihl ihr =>
    intro n h p
    cases n with
    | zero => exact h.elim
    | succ n =>
      obtain ⟨h1, h2⟩ := h
      cases p with
      | h => exact ⟨fun _ => ⟨x, rfl⟩, fun hp => by simp only [Pos.num] at hp; omega⟩
      | o p =>
        have := ihl h1 p
        simp only [Pos.num]
        exact ⟨fun hp => this.1 (by omega), fun hp => this.2 (by omega)⟩
      | i p =>
        have := ihr h2 p
        simp only [Pos.num]
        exact ⟨fun hp => this.1 (by omega), fun hp => this.2 (by omega)⟩

/-! Cells put in. -/
theorem putCells_full : ∀ {cs : AV} {t t' : Tr AV} {n o : Nat}, t.Full n → o ≤ n → putCells t o cs = some t' → t'.Full (max n (o + cs.len)) := by
  intro cs
  induction cs with
  | nil => intro t t' n o h ho hp; simp only [putCells] at hp; cases hp; simp only [AV.len]; rw [show max n (o + 0) = n by omega]; exact h
  | cons a r _ ih =>
    intro t t' n o h ho hp
    simp only [putCells] at hp
    split at hp
    · simp only [AV.len]
      rcases Nat.lt_or_ge o n with h1 | h1
      · have := ih (n := n) (o := o + 1) (Tr.Full.set h (by rw [num_key]; omega)) (by omega) hp
        rw [show max n (o + (r.len + 1)) = max n (o + 1 + r.len) by omega]
        exact this
      · have e : o = n := by omega
        subst e
        have := ih (n := o + 1) (o := o + 1) (Tr.Full.add h (by rw [num_key])) (by omega) hp
        rw [show max o (o + (r.len + 1)) = max (o + 1) (o + 1 + r.len) by omega]
        exact this
    · cases hp
  | _ => intro t t' n o h ho hp; simp only [putCells] at hp; cases hp
/-! Memory whose rows are full. -/
def Row (t : Tr AV) (n : Nat) : Prop := t.Full n ∧ ∀ q v, t.get q = some v → isCell v = true
def RInv (H : Heap) : Prop := ∀ p t n op, H.get p = some (.cells t n op) → Row t n
theorem putCells_cells : ∀ {cs : AV} {t t' : Tr AV} {o : Nat}, (∀ q v, t.get q = some v → isCell v = true) → putCells t o cs = some t' → ∀ q v, t'.get q = some v → isCell v = true := by
  intro cs
  induction cs with
  | nil => intro t t' o h hp; simp only [putCells] at hp; cases hp; exact h
  | cons a r _ ih =>
    intro t t' o h hp
    simp only [putCells] at hp
    split at hp
    · rename_i ha
      refine ih (fun q v hq => ?_) hp
      rw [Tr.get_set] at hq
      split at hq
      · cases hq; exact ha
      · exact h q v hq
    · cases hp
  | _ => intro t t' o h hp; simp only [putCells] at hp; cases hp
theorem RInv.empty (p : Pos) : RInv ⟨p, .leaf⟩ := fun q t n op h => by unfold Heap.get at h; rw [Tr.get_leaf] at h; cases h
theorem RInv.put {H : Heap} (h : RInv H) {p : Pos} {o : AO} (ho : ∀ t n op, o = .cells t n op → Row t n) : RInv (H.put p o) := by
  intro q t n op hq
  unfold Heap.get Heap.put at hq
  rw [Tr.get_set] at hq
  split at hq
  · cases hq; exact ho _ _ _ rfl
  · exact h q t n op hq
theorem RInv.next {H : Heap} (h : RInv H) (p : Pos) : RInv ⟨p, H.t⟩ := h
theorem RInv.new {H : Heap} (h : RInv H) {o : AO} (ho : ∀ t n op, o = .cells t n op → Row t n) : RInv (H.new o).2 := h.put (p := H.next) ho
theorem RInv.row {H : Heap} (h : RInv H) {cs : AV} {op : Bool} {p : Pos} {H' : Heap} (hr : H.row cs op = some (p, H')) : RInv H' := by
  unfold Heap.row at hr
  cases ht : treeOf cs with
  | none => rw [ht] at hr; cases hr
  | some t =>
    rw [ht] at hr
    cases hr
    refine h.new fun t' n op' e => ?_
    cases e
    have := putCells_full (n := 0) (o := 0) Tr.Full.leaf (Nat.le_refl 0) ht
    rw [show max 0 (0 + cs.len) = cs.len by omega] at this
    exact ⟨this, putCells_cells (fun q v h => by rw [Tr.get_leaf] at h; cases h) ht⟩
theorem RInv.store {H H' : Heap} (h : RInv H) {p : Pos} {off : Nat} {vs : AV} (hs : H.store p off vs = some H') : RInv H' := by
  unfold Heap.store at hs
  cases hp : H.get p with
  | none => rw [hp] at hs; cases hs
  | some o =>
    rw [hp] at hs
    cases o with
    | cells t n op =>
      simp only at hs
      split at hs
      · rename_i hle
        cases ht : putCells t off vs with
        | none => rw [ht] at hs; cases hs
        | some t' =>
          rw [ht] at hs
          cases hs
          refine h.put fun t2 n2 op2 e => ?_
          cases e
          have := putCells_full (h p t n op hp).1 (by omega) ht
          rw [show max n (off + vs.len) = n by omega] at this
          exact ⟨this, putCells_cells (h p t n op hp).2 ht⟩
      · cases hs
    | _ => cases hs
theorem RInv.putAt {H H' : Heap} (h : RInv H) {d cs : AV} (hs : Dx.putAt H d cs = some H') : RInv H' := by
  unfold Dx.putAt at hs
  split at hs
  · split at hs <;> first | (cases hs; exact h) | cases hs
  · split at hs
    · exact h.store hs
    · split at hs
      · cases hs
      · exact h.store hs
    · cases hs
theorem RInv.appendC {H H' : Heap} (h : RInv H) {size n : Nat} {new x v : AV} (hs : Dx.appendC H size n new x = some (v, H')) : RInv H' := by
  unfold Dx.appendC at hs
  split at hs
  · split at hs
    · cases hs; exact h
    · split at hs
      · cases hr : H.row new true with
        | none => rw [hr] at hs; cases hs
        | some q => rw [hr] at hs; cases hs; exact h.row hr
      · cases hs
  · split at hs
    · split at hs
      · cases hs; exact h
      · simp only [Option.map_eq_some_iff] at hs
        obtain ⟨H2, h2, h3⟩ := hs
        cases h3
        exact h.store h2
    · split at hs
      · simp only [Option.bind_eq_bind, Option.bind_eq_some_iff] at hs
        obtain ⟨old, _, ⟨q, H2⟩, h2, h3⟩ := hs
        cases h3
        exact h.row h2
      · cases hs
  · split at hs
    · cases hs
    · split at hs
      · split at hs
        · split at hs
          · cases hs; exact h
          · simp only [Option.map_eq_some_iff] at hs
            obtain ⟨H2, h2, h3⟩ := hs
            cases h3
            exact h.store h2
        · split at hs
          · simp only [Option.bind_eq_bind, Option.bind_eq_some_iff] at hs
            obtain ⟨old, _, ⟨q, H2⟩, h2, h3⟩ := hs
            cases h3
            exact (h.put (fun _ _ _ e => by cases e)).row h2
          · cases hs
      · cases hs
  · cases hs
theorem RInv.mapPut {H H' : Heap} (h : RInv H) {k : EK} {key v m : AV} (hs : Dx.mapPut H k key v m = some H') : RInv H' := by
  unfold Dx.mapPut at hs
  split at hs
  · split at hs
    · simp only [Option.map_eq_some_iff] at hs
      obtain ⟨⟨es, f⟩, _, rfl⟩ := hs
      exact h.put fun _ _ _ e => by cases e
    · cases hs
  · cases hs
theorem RInv.insertF {H H' : Heap} (h : RInv H) {as v : AV} (hs : Dx.insertF as H = some (v, H')) : RInv H' := by
  unfold Dx.insertF at hs
  split at hs
  · split at hs
    · split at hs
      · split at hs
        · split at hs
          · exact h.appendC hs
          · split at hs
            · split at hs
              · split at hs
                · split at hs
                  · rename_i ha
                    simp only [Option.map_eq_some_iff] at hs
                    obtain ⟨H2, h2, e⟩ := hs
                    cases e
                    exact (h.appendC ha).store h2
                  · cases hs
                · cases hs
              · cases hs
            · cases hs
        · cases hs
      · cases hs
    · cases hs
  · cases hs
theorem RInv.noCells {H : Heap} (h : RInv H) {p : Pos} {o : AO} (ho : ∀ t n op, o ≠ .cells t n op) : RInv (H.put p o) := h.put fun t n op e => absurd e (ho t n op)
theorem RInv.bldPut {H H' : Heap} (h : RInv H) {T : Nat} {p : Pos} {k x : Nat} (hs : Dx.bldPut T H p k x = some H') : RInv H' := by
  unfold Dx.bldPut at hs
  split at hs
  · rename_i t e u q hp
    have h1 : RInv (H.put p (.bld t e true q)) := h.noCells (by simp)
    simp only at hs
    split at hs
    · split at hs
      · cases hs; exact h1.noCells (by simp)
      · split at hs
        · split at hs
          · cases hs
            exact (h1.new (o := .buf e k x) fun t n op e => by cases e).noCells (by simp)
          · cases hs
        · split at hs
          · split at hs
            · cases hs
              exact ((h1.noCells (by simp)).new fun t n op e => by cases e).noCells (by simp)
            · cases hs
          · cases hs
    · cases hs
  · cases hs
theorem RInv.bldF {H H' : Heap} (h : RInv H) {T k : Nat} {as v : AV} (hs : Dx.bldF T k as H = some (v, H')) : RInv H' := by
  unfold Dx.bldF at hs
  split at hs
  · split at hs
    · simp only [Option.map_eq_some_iff] at hs
      obtain ⟨H2, h2, e⟩ := hs
      cases e
      exact h.bldPut h2
    · cases hs
  · split at hs
    · split at hs
      · simp only [Option.map_eq_some_iff] at hs
        obtain ⟨H2, h2, e⟩ := hs
        cases e
        exact h.bldPut h2
      · cases hs
    · cases hs
  · split at hs
    · split at hs
      · split at hs
        · cases hs; exact h.noCells (by simp)
        · cases hs
      · split at hs
        · split at hs
          · cases hs; exact (h.noCells (by simp)).noCells (by simp)
          · cases hs
        · cases hs
      · cases hs
    · cases hs
  · split at hs
    · split at hs
      · cases hs; exact h
      · cases hs; exact h
      · cases hs
    · cases hs
  · cases hs
theorem RInv.errF {H H' : Heap} (h : RInv H) {k : Nat} {as v : AV} (hs : Dx.errF k as H = some (v, H')) : RInv H' := by
  unfold Dx.errF at hs
  split at hs
  · split at hs
    · split at hs
      · split at hs
        · split at hs
          · split at hs
            · split at hs
              · simp only [Option.map_eq_some_iff] at hs
                obtain ⟨H2, h2, e⟩ := hs
                cases e
                exact h.store h2
              · cases hs
            · split at hs
              · simp only [Option.map_eq_some_iff] at hs
                obtain ⟨H2, h2, e⟩ := hs
                cases e
                exact h.store h2
              · split at hs
                · cases hs; exact h
                · cases hs
            · cases hs
          · cases hs
        · cases hs
      · cases hs
    · split at hs
      · split at hs
        · split at hs
          · cases hs; exact h
          · cases hs
        · cases hs
      · split at hs
        · cases hs; exact h
        · cases hs
      · cases hs
  · cases hs; exact h
  · cases hs
theorem RInv.actF {H H' : Heap} (h : RInv H) {k : Nat} {as v : AV} (hs : Dx.actF k as H = some (v, H')) : RInv H' := by
  unfold Dx.actF at hs
  split at hs
  · exact h.insertF hs
  · split at hs
    · exact h.errF hs
    · exact h.bldF hs
theorem RInv.mapPutP {H H' : Heap} (h : RInv H) {p : Pos} {off : Nat} {v m : AV} (hs : Dx.mapPutP H p off v m = some H') : RInv H' := by
  unfold Dx.mapPutP at hs
  split at hs
  · split at hs
    · simp only [Option.map_eq_some_iff] at hs
      obtain ⟨⟨es', fresh⟩, _, e⟩ := hs
      subst e
      exact h.put (by rintro _ _ _ ⟨⟩)
    · cases hs
  · cases hs
theorem RInv.mapDel {H H' : Heap} (h : RInv H) {k : EK} {key m : AV} (hs : Dx.mapDel H k key m = some H') : RInv H' := by
  unfold Dx.mapDel at hs
  split at hs
  · cases hs; exact h
  · split at hs
    · simp only [Option.map_eq_some_iff] at hs
      obtain ⟨es, _, rfl⟩ := hs
      exact h.put fun _ _ _ e => by cases e
    · cases hs
  · cases hs

theorem CI.ev_inv {ci : CI} {ls : AV} {fr : Tr AV} {H H' : Heap} {v : AV} (h : RInv H) (hs : ci.ev ls fr H = some (v, H')) : RInv H' := by
  cases ci with
  | alloc z n =>
    simp only [CI.ev] at hs
    split at hs
    · cases hs
    · simp only [Option.bind_eq_bind, Option.bind_eq_some_iff] at hs
      obtain ⟨⟨p, H2⟩, h1, h2⟩ := hs
      cases h2
      exact h.row h1
  | bld t e => cases hs; exact h.new fun _ _ _ e => by cases e
  | box x =>
    simp only [CI.ev, Option.bind_eq_bind, Option.bind_eq_some_iff] at hs
    obtain ⟨u, _, ⟨p, H2⟩, h1, h2⟩ := hs
    cases h2
    exact h.row h1
  | buildSlice z n len ps =>
    simp only [CI.ev, Option.bind_eq_bind, Option.bind_eq_some_iff] at hs
    obtain ⟨cs, _, hs⟩ := hs
    split at hs
    · cases hs
    · simp only [Option.bind_eq_some_iff] at hs
      obtain ⟨⟨p, H2⟩, h1, h2⟩ := hs
      cases h2
      exact h.row h1
  | store n a x =>
    simp only [CI.ev, Option.bind_eq_bind, Option.bind_eq_some_iff] at hs
    obtain ⟨u, _, hs⟩ := hs
    split at hs
    · simp only [Option.bind_eq_some_iff] at hs
      obtain ⟨w, _, hs⟩ := hs
      split at hs
      · simp only [Option.bind_eq_some_iff] at hs
        obtain ⟨H2, h1, h2⟩ := hs
        cases h2
        exact h.store h1
      · cases hs
    · cases hs
  | toBytes x =>
    simp only [CI.ev, Option.bind_eq_bind, Option.bind_eq_some_iff] at hs
    obtain ⟨u, _, hs⟩ := hs
    split at hs
    · simp only [Option.bind_eq_some_iff] at hs
      obtain ⟨⟨p, H2⟩, h1, h2⟩ := hs
      cases h2
      exact h.row h1
    · cases hs
  | mkMap =>
    simp only [CI.ev] at hs
    cases hs
    exact h.new fun _ _ _ e => by cases e
  | makeSlice z size l c =>
    simp only [CI.ev, Option.bind_eq_bind, Option.bind_eq_some_iff] at hs
    obtain ⟨u, _, l', _, u', _, c', _, hs⟩ := hs
    split at hs
    · simp only [Option.bind_eq_some_iff] at hs
      obtain ⟨⟨p, H2⟩, h1, h2⟩ := hs
      cases h2
      exact h.row h1
    · cases hs
  | update k m x v =>
    simp only [CI.ev, Option.bind_eq_bind, Option.bind_eq_some_iff] at hs
    obtain ⟨u, _, w, _, mv, _, hs⟩ := hs
    split at hs
    · cases hs
    · simp only [Option.bind_eq_some_iff] at hs
      obtain ⟨H2, h1, h2⟩ := hs
      cases h2
      exact h.mapPut h1
  | updateP m x v =>
    simp only [CI.ev, Option.bind_eq_bind, Option.bind_eq_some_iff] at hs
    obtain ⟨u, _, w, _, mv, _, hs⟩ := hs
    split at hs
    · split at hs
      · simp only [Option.bind_eq_some_iff] at hs
        obtain ⟨H2, h1, h2⟩ := hs
        cases h2
        exact h.mapPutP h1
      · cases hs
    · cases hs
  | delete k m x =>
    simp only [CI.ev, Option.bind_eq_bind, Option.bind_eq_some_iff] at hs
    obtain ⟨u, _, mv, _, hs⟩ := hs
    split at hs
    · cases hs
    · simp only [Option.bind_eq_some_iff] at hs
      obtain ⟨H2, h1, h2⟩ := hs
      cases h2
      exact h.mapDel h1
  | append z size x y =>
    simp only [CI.ev, Option.bind_eq_bind, Option.bind_eq_some_iff, appendA] at hs
    obtain ⟨u, _, w, _, n, _, new, _, hs⟩ := hs
    exact h.appendC hs
  | appendZ z size x y =>
    simp only [CI.ev, Option.bind_eq_bind, Option.bind_eq_some_iff] at hs
    obtain ⟨u, _, n, _, hs⟩ := hs
    split at hs
    · simp only [Option.bind_eq_some_iff] at hs
      obtain ⟨w, _, hs⟩ := hs
      exact h.appendC hs
    · cases hs
  | clear z size x =>
    simp only [CI.ev, Option.bind_eq_bind, Option.bind_eq_some_iff] at hs
    obtain ⟨u, _, n, _, hs⟩ := hs
    split at hs
    · cases hs
    · simp only [Option.bind_eq_some_iff] at hs
      obtain ⟨H2, h1, h2⟩ := hs
      cases h2
      exact h.putAt h1
  | copy size x y =>
    simp only [CI.ev, Option.bind_eq_bind, Option.bind_eq_some_iff] at hs
    obtain ⟨u, _, w, _, n, _, m, _, cs, _, H2, h1, h2⟩ := hs
    cases h2
    exact h.putAt h1
  | callF f as => cases hs
  | callV f as => cases hs
  | panic x => cases hs
  | defer f x => cases hs
  | _ => rw [light_same (by rfl) hs]; exact h

section
variable {call : Nat → AV → Heap → Option (CR × Heap)} {yld : Pos → AV → Heap → Option (CR × Heap)}
def YldInv (yld : Pos → AV → Heap → Option (CR × Heap)) : Prop := ∀ p as H r H', RInv H → yld p as H = some (r, H') → RInv H'
theorem noY_inv : YldInv noY := fun p as H r H' _ h => by cases h
def CallInv (call : Nat → AV → Heap → Option (CR × Heap)) : Prop := ∀ f as H r H', RInv H → call f as H = some (r, H') → RInv H'
theorem CI.run_inv (hc : CallInv call) (hy : YldInv yld) {ci : CI} {ls : AV} {fr : Tr AV} {H H' : Heap} {r : CR} (h : RInv H) (hs : CI.run call yld ls fr H ci = some (r, H')) : RInv H' := by
  cases ci with
  | callF f as =>
    simp only [CI.run, Option.bind_eq_bind, Option.bind_eq_some_iff] at hs
    obtain ⟨⟨f', as'⟩, _, h2⟩ := hs
    exact hc _ _ _ _ _ h h2
  | callV f as =>
    simp only [CI.run] at hs
    split at hs
    · split at hs
      · exact hy _ _ _ _ _ h hs
      · cases hs
    · split at hs
      · exact hc _ _ _ _ _ h hs
      · cases hs
  | panic x =>
    simp only [CI.run, Option.bind_eq_bind, Option.bind_eq_some_iff] at hs
    obtain ⟨u, _, hs⟩ := hs
    split at hs <;> cases hs
    exact h
  | defer f x =>
    simp only [CI.run, Option.bind_eq_bind, Option.bind_eq_some_iff] at hs
    obtain ⟨⟨f', as⟩, _, hs⟩ := hs
    cases hs
    exact h
  | _ =>
    simp only [CI.run, Option.bind_eq_bind, Option.bind_eq_some_iff] at hs
    obtain ⟨⟨u, H2⟩, h1, h2⟩ := hs
    cases h2
    exact CI.ev_inv h h1
def RO.heap : RO → Heap
  | .ok _ _ H => H
  | .pan _ _ H => H
theorem CIs.run_inv (hc : CallInv call) (hy : YldInv yld) : ∀ {cs : CIs} {ls : AV} {fr : Tr AV} {H : Heap} {r : RO}, RInv H → CIs.run call yld cs ls fr H = some r → RInv r.heap := by
  intro cs
  induction cs with
  | nil => intro ls fr H r h hs; cases hs; exact h
  | cons g ci dst rest ih =>
    intro ls fr H r h hs
    simp only [CIs.run] at hs
    split at hs
    · cases hs
    · exact ih h hs
    · split at hs
      · rename_i v H' he; exact ih (CI.run_inv hc hy h he) hs
      · rename_i v H' he; cases hs; exact CI.run_inv hc hy h he
      · cases hs
theorem DIs.run_inv (hc : CallInv call) : ∀ {ds : DIs} {R : List Pos} {Hs : List Heap} {ls : AV} {fr fr' : Tr AV} {H H' : Heap}, RInv H → DIs.run call ds R Hs ls fr H = some (fr', H') → RInv H' := by
  intro ds
  induction ds with
  | nil => intro R Hs ls fr fr' H H' h hs; cases hs; exact h
  | cons g ci dst k rest ih =>
    intro R Hs ls fr fr' H H' h hs
    simp only [DIs.run] at hs
    split at hs
    · cases hs
    · exact ih h hs
    · cases k with
      | heavy =>
        simp only at hs
        split at hs
        · rename_i v H2 he; exact ih (CI.run_inv hc noY_inv h he) hs
        · cases hs
      | light bk =>
        simp only at hs
        split at hs
        · split at hs
          · exact ih h hs
          · cases hs
        · cases hs
      | float =>
        simp only at hs
        split at hs
        · cases hs
        · rename_i p R'
          split at hs
          · rename_i v F he
            split at hs
            · rename_i o ho
              refine ih (h.put fun t n op e => ?_) hs
              subst e
              exact CI.ev_inv (RInv.empty p) he p t n op ho
            · cases hs
          · cases hs
theorem DIs.pan_inv (hc : CallInv call) : ∀ {ds : DIs} {R : List Pos} {Hs : List Heap} {ls : AV} {fr fr' : Tr AV} {v : AV} {H H' : Heap}, RInv H → DIs.pan call ds R Hs ls fr H = some (v, fr', H') → RInv H' := by
  intro ds
  induction ds with
  | nil => intro R Hs ls fr fr' v H H' h hs; cases hs
  | cons g ci dst k rest ih =>
    intro R Hs ls fr fr' v H H' h hs
    simp only [DIs.pan] at hs
    split at hs
    · cases hs
    · exact ih h hs
    · cases k with
      | heavy =>
        simp only at hs
        split at hs
        · rename_i v H2 he; exact ih (CI.run_inv hc noY_inv h he) hs
        · rename_i v H2 he
          split at hs
          · cases hs; exact CI.run_inv hc noY_inv h he
          · cases hs
        · cases hs
      | light bk =>
        simp only at hs
        split at hs
        · split at hs
          · exact ih h hs
          · cases hs
        · cases hs
      | float =>
        simp only at hs
        split at hs
        · cases hs
        · rename_i p R'
          split at hs
          · rename_i v F he
            split at hs
            · rename_i o ho
              refine ih (h.put fun t n op e => ?_) hs
              subst e
              exact CI.ev_inv (RInv.empty p) he p t n op ho
            · cases hs
          · cases hs
end

section
variable {tbl : Nat → Option CFunc}
def RunInv (rec : CCode → Tr AV → Heap → Option (Ex × Tr AV × Heap)) : Prop := ∀ c fr H e fr' H', RInv H → rec c fr H = some (e, fr', H') → RInv H'
theorem doCallD_inv {rec : CCode → Tr AV → Heap → Option (Ex × Tr AV × Heap)} (hr : RunInv rec) {f : Nat} {as m m' : AV} {H H' : Heap} (h : RInv H) (hs : doCallD tbl rec f as m H = some (m', H')) : RInv H' := by
  unfold doCallD at hs
  cases hf : tbl f with
  | none => rw [hf] at hs; cases hs
  | some cf =>
    rw [hf] at hs
    simp only at hs
    cases hk : cf.konst with
    | some k =>
      cases k with
      | recov =>
        rw [hk] at hs
        simp only at hs
        cases hen : enterFr as 0 .leaf with
        | none => rw [hen] at hs; cases hs
        | some fr =>
          rw [hen] at hs
          simp only at hs
          split at hs
          · rename_i hb
            split at hs <;> cases hs
            exact hr _ _ _ _ _ _ h hb
          · rename_i hb
            split at hs <;> cases hs
            exact hr _ _ _ _ _ _ h hb
          · cases hs
      | _ => rw [hk] at hs; cases hs
    | none =>
      rw [hk] at hs
      simp only at hs
      split at hs
      · cases hen : enterFr as 0 .leaf with
        | none => rw [hen] at hs; cases hs
        | some fr =>
          rw [hen] at hs
          simp only at hs
          cases hb : rec cf.body fr H with
          | none => rw [hb] at hs; cases hs
          | some q =>
            obtain ⟨e, fr', H2⟩ := q
            rw [hb] at hs
            have hi := hr _ _ _ _ _ _ h hb
            cases e with
            | normal => simp only [finish] at hs; cases hq : resultsA fr' H2 cf.results <;> rw [hq] at hs <;> cases hs; exact hi
            | ret => simp only [finish] at hs; cases hq : resultsA fr' H2 cf.results <;> rw [hq] at hs <;> cases hs; exact hi
            | pan v => cases hs
            | exit _ => cases hs
            | goto _ => cases hs
      · cases hs
theorem leave_inv {cd : Nat → AV → AV → Heap → Option (AV × Heap)} (hc : ∀ f as m H m' H', RInv H → cd f as m H = some (m', H') → RInv H') {rs : List CRes} {fr : Tr AV} : ∀ {L m : AV} {H H' : Heap} {r : CR}, RInv H → leave cd rs fr L m H = some (r, H') → RInv H' := by
  intro L
  induction L with
  | nil =>
    intro m H H' r h hs
    simp only [leave] at hs
    split at hs
    · simp only [Option.map_eq_some_iff] at hs; obtain ⟨v, _, hv⟩ := hs; cases hv; exact h
    · cases hs; exact h
    · cases hs
  | cons d L _ ih =>
    intro m H H' r h hs
    cases d with
    | iface f as =>
      simp only [leave] at hs
      split at hs
      · rename_i h1; exact ih (hc _ _ _ _ _ _ h h1) hs
      · cases hs
    | _ => cases hs
  | _ => intro m H H' r h hs; cases hs
theorem doCall_inv {rec : CCode → Tr AV → Heap → Option (Ex × Tr AV × Heap)} (hr : RunInv rec) : CallInv (doCall tbl rec) := by
  intro f as H r H' h hs
  unfold doCall at hs
  cases hf : tbl f with
  | none => rw [hf] at hs; cases hs
  | some cf =>
    rw [hf] at hs
    simp only at hs
    cases hk : cf.konst with
    | some k =>
      cases k with
      | val v =>
        rw [hk] at hs
        simp only at hs
        split at hs <;> cases hs
        exact h
      | nat g =>
        rw [hk] at hs
        simp only at hs
        split at hs <;> cases hs
        exact h
      | act k =>
        rw [hk] at hs
        simp only at hs
        split at hs
        · rename_i v H2 hg
          cases hs
          exact h.actF hg
        · cases hs
      | recov => rw [hk] at hs; cases hs
      | dfr =>
        rw [hk] at hs
        simp only at hs
        have hc : ∀ f as m H m' H', RInv H → doCallD tbl rec f as m H = some (m', H') → RInv H' := fun _ _ _ _ _ _ hi => doCallD_inv hr hi
        cases hen : enterFr as 0 .leaf with
        | none => rw [hen] at hs; cases hs
        | some fr =>
          rw [hen] at hs
          simp only at hs
          cases hb : rec cf.body fr H with
          | none => rw [hb] at hs; cases hs
          | some q =>
            obtain ⟨e, fr', H2⟩ := q
            rw [hb] at hs
            have hi := hr _ _ _ _ _ _ h hb
            cases e with
            | normal => exact leave_inv hc hi hs
            | ret => exact leave_inv hc hi hs
            | pan v =>
              simp only [finishD] at hs
              split at hs
              · exact leave_inv hc hi hs
              · cases hs
            | exit _ => cases hs
            | goto _ => cases hs
    | none =>
      rw [hk] at hs
      simp only at hs
      cases hen : enterFr as 0 .leaf with
      | none => rw [hen] at hs; cases hs
      | some fr =>
        rw [hen] at hs
        simp only at hs
        cases hb : rec cf.body fr H with
        | none => rw [hb] at hs; cases hs
        | some q =>
          obtain ⟨e, fr', H2⟩ := q
          rw [hb] at hs
          have hi := hr _ _ _ _ _ _ h hb
          cases e with
          | normal => simp only [finish, Option.map_eq_some_iff] at hs; obtain ⟨v, _, hv⟩ := hs; cases hv; exact hi
          | ret => simp only [finish, Option.map_eq_some_iff] at hs; obtain ⟨v, _, hv⟩ := hs; cases hv; exact hi
          | pan v => cases hs; exact hi
          | exit _ => cases hs
          | goto _ => cases hs
theorem reserve_inv : ∀ {n : Nat} {H : Heap}, RInv H → RInv (reserve n H).2 := by
  intro n
  induction n with
  | zero => intro H h; exact h
  | succ n ih => intro H h; exact ih (H := ⟨H.next.succ, H.t⟩) h
theorem doYield_inv {rec : CCode → Tr AV → Heap → Option (Ex × Tr AV × Heap)} (hr : RunInv rec) : YldInv (doYield rec) := by
  intro p as H r H' h hs
  unfold doYield at hs
  split at hs
  · split at hs
    · cases hs
    · split at hs
      · rename_i h1
        have i1 := hr _ _ _ _ _ _ h h1
        split at hs
        · split at hs
          · rename_i h2
            have i2 := hr _ _ _ _ _ _ (i1.put fun _ _ _ e => by cases e) h2
            split at hs
            · split at hs <;> cases hs <;> exact i2.put fun _ _ _ e => by cases e
            · cases hs
          · cases hs
        · cases hs
      · cases hs
  · cases hs
theorem run_inv (n : Nat) : RunInv (run tbl n) := by
  induction n with
  | zero => intro c fr H e fr' H' _ hs; cases hs
  | succ n ih =>
    intro c fr H e fr' H' h hs
    simp only [run] at hs
    have hc : CallInv (doCall tbl (run tbl n)) := doCall_inv ih
    have hy : YldInv (doYield (run tbl n)) := doYield_inv ih
    cases c with
    | rangeFunc g ps asg body sa sb k far =>
      simp only [stepC] at hs
      split at hs
      · split at hs
        · rename_i h1
          have i1 := hc _ _ _ _ _ (h.new fun _ _ _ e => by cases e) h1
          split at hs
          · split at hs
            · cases hs
            · split at hs
              · cases hs
                exact i1.put fun _ _ _ e => by cases e
              · cases hs
          · cases hs
        · rename_i h1
          cases hs
          exact hc _ _ _ _ _ (h.new fun _ _ _ e => by cases e) h1
        · cases hs
      · cases hs
    | region cs =>
      simp only [stepC] at hs
      split at hs
      · rename_i h1; cases hs; exact CIs.run_inv hc hy h h1
      · rename_i h1; cases hs; exact CIs.run_inv hc hy h h1
      · cases hs
    | draw ds nf =>
      simp only [stepC] at hs
      split at hs
      · rename_i h1; cases hs; exact DIs.run_inv hc (reserve_inv h) h1
      · split at hs
        · rename_i h1; cases hs; exact DIs.pan_inv hc (reserve_inv h) h1
        · cases hs
    | seq a b =>
      simp only [stepC] at hs
      split at hs
      · rename_i h1; exact ih _ _ _ _ _ _ (ih _ _ _ _ _ _ h h1) hs
      · exact ih _ _ _ _ _ _ h hs
    | cond c a b =>
      simp only [stepC] at hs
      split at hs
      · exact ih _ _ _ _ _ _ h hs
      · exact ih _ _ _ _ _ _ h hs
      · cases hs
    | block id c =>
      simp only [stepC] at hs
      split at hs
      · rename_i h1; cases hs; exact ih _ _ _ _ _ _ h h1
      · cases hs
    | loop c =>
      simp only [stepC] at hs
      split at hs
      · rename_i h1; exact ih _ _ _ _ _ _ (ih _ _ _ _ _ _ h h1) hs
      · exact ih _ _ _ _ _ _ h hs
    | scope r c =>
      simp only [stepC] at hs
      split at hs
      · rename_i h1
        split at hs
        · exact ih _ _ _ _ _ _ (ih _ _ _ _ _ _ h h1) hs
        · cases hs; exact ih _ _ _ _ _ _ h h1
      · exact ih _ _ _ _ _ _ h hs
    | _ => simp only [stepC] at hs; cases hs; exact h
theorem callN_inv (n : Nat) : CallInv (callN tbl n) := doCall_inv (run_inv n)
end

/-! The first cells of a row. -/
theorem cellsFrom_get : ∀ {n o : Nat} {t : Tr AV} {cs : AV}, cellsFrom t o n = some cs → cs.len = n ∧ ∀ j, j < n → ∃ v, t.get (key (o + j)) = some v ∧ cs.nth j = some v := by
  intro n
  induction n with
  | zero => intro o t cs h; cases h; exact ⟨rfl, fun j hj => by omega⟩
  | succ n ih =>
    intro o t cs h
    simp only [cellsFrom, Option.bind_eq_bind, Option.bind_eq_some_iff] at h
    obtain ⟨v, h1, r, h2, h3⟩ := h
    cases h3
    obtain ⟨h4, h5⟩ := ih h2
    refine ⟨by simp only [AV.len, h4], fun j hj => ?_⟩
    cases j with
    | zero => exact ⟨v, h1, rfl⟩
    | succ j =>
      obtain ⟨u, h6, h7⟩ := h5 j (by omega)
      exact ⟨u, by rw [show o + (j + 1) = o + 1 + j by omega]; exact h6, h7⟩

/-- The first m of n cells. -/
def Tr.trunc {α : Type} : Tr α → Nat → Nat → Tr α
  | .leaf, _, _ => .leaf
  | .nod l r, m, n => .nod (l.trunc (m / 2) (n / 2)) (r.trunc ((m - 1) / 2) ((n - 1) / 2))
  | .val l x r, m, n => if m = n then .val l x r else if m = 0 then .leaf else .val (l.trunc (m / 2) (n / 2)) x (r.trunc ((m - 1) / 2) ((n - 1) / 2))
theorem Tr.trunc_full {α : Type} : ∀ {t : Tr α} {m n : Nat}, t.Full n → m ≤ n → (t.trunc m n).Full m := by
  intro t
  induction t with
  | leaf =>
    intro m n h hm
    cases n with
    | zero => obtain rfl : m = 0 := by omega
              exact trivial
    | succ n => exact h.elim
  | nod l r _ _ => intro m n h; cases n <;> exact h.elim
  | val l x r ihl ihr =>
    intro m n h hm
    unfold Tr.trunc
    by_cases h1 : m = n
    · rw [if_pos h1, h1]; exact h
    · rw [if_neg h1]
      by_cases h2 : m = 0
      · rw [if_pos h2, h2]; exact trivial
      · rw [if_neg h2]
        cases n with
        | zero => omega
        | succ n =>
          obtain ⟨m, rfl⟩ : ∃ k, m = k + 1 := ⟨m - 1, by omega⟩
          obtain ⟨h3, h4⟩ := h
          exact ⟨ihl h3 (by omega), ihr h4 (by omega)⟩
theorem Tr.trunc_get {α : Type} : ∀ {t : Tr α} {m n : Nat}, t.Full n → m ≤ n → ∀ p : Pos, p.num ≤ m → (t.trunc m n).get p = t.get p := by
  intro t
  induction t with
  | leaf => intro m n h hm p hp; rfl
  | nod l r _ _ => intro m n h; cases n <;> exact h.elim
  | val l x r ihl ihr =>
    intro m n h hm p hp
    unfold Tr.trunc
    by_cases h1 : m = n
    · rw [if_pos h1]
    · rw [if_neg h1]
      by_cases h2 : m = 0
      · have := Pos.num_pos p; omega
      · rw [if_neg h2]
        cases n with
        | zero => omega
        | succ n =>
          obtain ⟨h3, h4⟩ := h
          cases p with
          | h => rfl
          | o p => exact ihl h3 (by omega) p (by simp only [Pos.num] at hp; omega)
          | i p => exact ihr h4 (by omega) p (by simp only [Pos.num] at hp; omega)

theorem Tr.key_of (p : Pos) : ∃ i, key i = p := ⟨p.num - 1, Pos.num_inj (by rw [num_key]; have := Pos.num_pos p; omega)⟩

/-- A row of a row's first cells, and others behind them. -/
theorem putCells_trunc {t : Tr AV} {n m : Nat} (hr : Row t n) (hm : m ≤ n) {cs : AV} (hc : cellsFrom t 0 m = some cs) (more : AV) :
    putCells .leaf 0 (cs.app more) = putCells (t.trunc m n) m more := by
  obtain ⟨ht, hall⟩ := hr
  have hl := cellsFrom_get hc
  have key1 : ∀ {cs : AV} {o : Nat} {t0 : Tr AV}, (∀ j u, cs.nth j = some u → isCell u = true) → cs.isList = true → ∃ t', putCells t0 o cs = some t' ∧ putCells t0 o (cs.app more) = putCells t' (o + cs.len) more := by
    intro cs
    induction cs with
    | nil => intro o t0 _ _; exact ⟨t0, rfl, rfl⟩
    | cons a r _ ih =>
      intro o t0 h1 h2
      have ha : isCell a = true := h1 0 a rfl
      obtain ⟨t', h3, h4⟩ := ih (o := o + 1) (t0 := t0.set (key o) a) (fun j u hu => h1 (j + 1) u hu) h2
      refine ⟨t', by simp only [putCells, ha, if_true]; exact h3, ?_⟩
      show putCells t0 o (.cons a (r.app more)) = _
      simp only [putCells, ha, if_true, AV.len]
      rw [h4, show o + 1 + r.len = o + (r.len + 1) by omega]
    | _ => intro o t0 _ h2; simp only [AV.isList] at h2; cases h2
  have hlist : ∀ (k o : Nat) (cs : AV), cellsFrom t o k = some cs → cs.isList = true := by
    intro k
    induction k with
    | zero => intro o cs h; cases h; rfl
    | succ k ih =>
      intro o cs h
      simp only [cellsFrom, Option.bind_eq_bind, Option.bind_eq_some_iff] at h
      obtain ⟨v, _, r, h2, h3⟩ := h
      cases h3
      exact ih _ r h2
  have hnth : ∀ {cs : AV} {j : Nat} {u : AV}, cs.nth j = some u → j < cs.len := by
    intro cs
    induction cs with
    | cons a r _ ih =>
      intro j u h
      cases j with
      | zero => simp only [AV.len]; omega
      | succ j => have := ih (j := j) h; simp only [AV.len]; omega
    | _ => intro j u h; simp only [AV.nth] at h; cases h
  have hcell : ∀ j u, cs.nth j = some u → isCell u = true := by
    intro j u hu
    have hj := hnth hu
    rw [hl.1] at hj
    obtain ⟨v, h1, h2⟩ := hl.2 j hj
    rw [hu] at h2
    cases h2
    exact hall _ _ h1
  obtain ⟨t', h1, h2⟩ := key1 (o := 0) (t0 := .leaf) hcell (hlist _ _ _ hc)
  rw [h2, hl.1, Nat.zero_add]
  have e : t' = t.trunc m n := by
    have f1 := putCells_full (n := 0) (o := 0) Tr.Full.leaf (Nat.le_refl 0) h1
    rw [hl.1, show max 0 (0 + m) = m by omega] at f1
    have f2 := Tr.trunc_full ht hm
    refine Tr.Full.ext f1 f2 fun p => ?_
    obtain ⟨i, rfl⟩ := Tr.key_of p
    rcases Nat.lt_or_ge i m with hi | hi
    · rw [Tr.trunc_get ht hm _ (by rw [num_key]; omega)]
      obtain ⟨v, h3, h4⟩ := hl.2 i hi
      have := (putCells_get cs .leaf t' 0 h1).2.1 i v h4
      rw [Nat.zero_add] at this h3
      rw [this.1, h3]
    · rw [(f1.get (key i)).2 (by rw [num_key]; omega), (f2.get (key i)).2 (by rw [num_key]; omega)]
  rw [e]
end Go.Dx
