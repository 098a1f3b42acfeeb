/-
  From a computed call to a statement's walk.
-/
import Derived.Test.YtpmfhinbmnaomaaGreatDoorDxSound
import Derived.RowKit3
set_option linter.unusedSimpArgs false
set_option linter.unusedVariables false
set_option linter.unusedSectionVars false
namespace Go.Dx

/-- Of each entry of a tree. -/
def Tr.All {α : Type} (Q : Pos → α → Prop) : Tr α → Prop
  | .leaf => True
  | .nod l r => Tr.All (fun p => Q (.o p)) l ∧ Tr.All (fun p => Q (.i p)) r
  | .val l x r => Tr.All (fun p => Q (.o p)) l ∧ Q .h x ∧ Tr.All (fun p => Q (.i p)) r

theorem Tr.All.get {α : Type} : ∀ {t : Tr α} {Q : Pos → α → Prop} {p : Pos} {x : α}, Tr.All Q t → t.get p = some x → Q p x := by
  intro t
  induction t with
  | leaf => intro Q p x _ h; rw [Tr.get_leaf] at h; cases h
  | nod l r ihl ihr =>
    intro Q p x hq h
    cases p with
    | h => cases h
    | o p => exact ihl (Q := fun p => Q (.o p)) hq.1 h
    | i p => exact ihr (Q := fun p => Q (.i p)) hq.2 h
  | val l y r ihl ihr =>
    intro Q p x hq h
    cases p with
    | h => cases h; exact hq.2.1
    | o p => exact ihl (Q := fun p => Q (.o p)) hq.1 h
    | i p => exact ihr (Q := fun p => Q (.i p)) hq.2.2 h

def okFn (fn : Func) (n : Nat) : Bool := fn.body.isSome && !(fn.name == "runtime.NumGoroutine") && n == fn.ntmps

theorem FnOk.ofO {P : Program} {ng f : Nat} {fn : Func} {cf : CFunc} {C : Ctx} (h1 : P.funcs[f]? = some fn) (h2 : okFn fn C.n = true) (hng : C.ng = ng) (h3 : FuncO P C fn cf) : FnOk P ng f cf := by
  simp only [okFn, Bool.and_eq_true, Bool.not_eq_true', beq_eq_false_iff_ne, beq_iff_eq] at h2
  have hk : cf.konst = none ∨ cf.konst = some .dfr := by
    obtain ⟨c, cc, rs, _, _, _, rfl⟩ := h3
    cases hd : cc.noDef
    · exact .inr (by simp)
    · exact .inl (by simp)
  unfold FnOk
  rcases hk with hk | hk <;> rw [hk] <;> exact ⟨fn, C, h1, h2.1.1, h2.1.2, hng, h2.2, h3⟩
theorem FnOk.of {P : Program} {ng f n : Nat} {fn : Func} {cf : CFunc} {far : Nat → Bool} (h1 : P.funcs[f]? = some fn) (h2 : okFn fn n = true) (h3 : funcP P ⟨far, n, ng⟩ fn = some cf) : FnOk P ng f cf :=
  .ofO (C := ⟨far, n, ng⟩) h1 h2 rfl (.of h3)

/-- One that is deferred, and asks what was thrown. -/
theorem FnOk.asks {P : Program} {ng f n : Nat} {fn : Func} {cf : CFunc} {far : Nat → Bool} (h1 : P.funcs[f]? = some fn) (h2 : okFn fn n = true) (h3 : funcS P ⟨far, n, ng⟩ fn = some cf) : FnOk P ng f cf := by
  simp only [okFn, Bool.and_eq_true, Bool.not_eq_true', beq_eq_false_iff_ne, beq_iff_eq] at h2
  have hk : cf.konst = some .recov := by
    unfold funcS at h3
    split at h3
    · cases h3
    · split at h3
      · cases h3; rfl
      · cases h3
  unfold FnOk
  rw [hk]
  exact ⟨fn, ⟨far, n, ng⟩, h1, h2.1.1, h2.1.2, rfl, h2.2, h3⟩

/-- One of which it is known what it answers. -/
theorem FnOk.konst {P : Program} {ng f n : Nat} {fn : Func} {c : CCode} {rs : List CRes} {v : AV} {x : Value} (h1 : P.funcs[f]? = some fn) (h2 : okFn fn n = true) (hx : ∀ ρ, RX ρ v [x])
    (h : ∀ w : World, Calls P f #[] w fun e w' => e = .returned x ∧ w'.os = w.os ∧ w'.tape = w.tape ∧ w'.output = w.output ∧ w.heap.size ≤ w'.heap.size ∧ ∀ b, b < w.heap.size → w'.heap[b]? = w.heap[b]?) : FnOk P ng f ⟨c, rs, some (.val v)⟩ := by
  simp only [okFn, Bool.and_eq_true, Bool.not_eq_true', beq_eq_false_iff_ne, beq_iff_eq] at h2
  exact ⟨⟨fn, h1, h2.1.1, h2.1.2⟩, x, hx, h⟩

theorem TblOk.of {P : Program} {ng : Nat} {t : Tr CFunc} (hm : P.follows .mixedOrders = true) (h : Tr.All (fun p cf => FnOk P ng (p.num - 1) cf) t) : TblOk P ng (fun f => t.get (key f)) where
  fn := fun f cf hf => by
    have := h.get hf
    rw [num_key] at this
    exact this
  mixed := hm

def isTrue : Option (CR × Heap) → Bool
  | some (.ret (.bool true), _) => true
  | _ => false

theorem HRel.empty {P : Program} (w : World) : HRel P 0 (fun _ => none) ⟨.h, .leaf⟩ w where
  objs := fun p o L _ _ h => by cases h
  inj := fun p q L M _ _ h => by cases h
  bound := fun p L h => by cases h
  fresh := fun _ _ => rfl
  globals := fun g h => by omega
  wf := fun p _ => by unfold Heap.live Heap.get; rw [Tr.get_leaf]
  loops := fun p o h => by unfold Heap.get at h; rw [Tr.get_leaf] at h; cases h

/-- A closed call that comes to true. -/
theorem closed_calls {P : Program} {tbl : Nat → Option CFunc} (hT : TblOk P 0 tbl) {n f : Nat} (h : isTrue (callN tbl n f .nil ⟨.h, .leaf⟩) = true) (w : World) :
    Calls P f #[] w fun e w' => e = .returned (.bool true) ∧ w.keptBut w' (fun _ => False) := by
  unfold isTrue at h
  split at h
  · rename_i H' he
    obtain ⟨_, hc⟩ := callN_ok hT n f .nil ⟨.h, .leaf⟩ _ _ he
    refine Calls.mono (hc (fun _ => none) w #[] (HRel.empty w) rfl rfl) ?_
    intro e w' ⟨ρ', h1, h2, h3⟩
    cases e with
    | returned x =>
      have hx : x = .bool true := RX.bool_eq (ρ := ρ') h3
      refine ⟨by rw [hx], h2.os, h2.output, fun i hi => ?_⟩
      rw [h2.frame i hi fun p L _ hL => by cases hL]
      cases w.heap[i]? with
      | none => trivial
      | some o => cases o <;> first | exact ⟨rfl, rfl, rfl, fun _ _ => rfl⟩ | exact .inr ⟨rfl, rfl⟩ | rfl
    | _ => exact h3.elim
  · cases h

/-- A closed call that comes to true: as one of which it is known. -/
theorem closed_known {P : Program} {tbl : Nat → Option CFunc} (hT : TblOk P 0 tbl) {n f : Nat} (h : isTrue (callN tbl n f .nil ⟨.h, .leaf⟩) = true) (w : World) :
    Calls P f #[] w fun e w' => e = .returned (.bool true) ∧ w'.os = w.os ∧ w'.tape = w.tape ∧ w'.output = w.output ∧ w.heap.size ≤ w'.heap.size ∧ ∀ b, b < w.heap.size → w'.heap[b]? = w.heap[b]? := by
  unfold isTrue at h
  split at h
  · rename_i H' he
    obtain ⟨_, hc⟩ := callN_ok hT n f .nil ⟨.h, .leaf⟩ _ _ he
    refine Calls.mono (hc (fun _ => none) w #[] (HRel.empty w) rfl rfl) ?_
    intro e w' ⟨ρ', h1, h2, h3⟩
    cases e with
    | returned x =>
      have hx : x = .bool true := RX.bool_eq (ρ := ρ') h3
      exact ⟨by rw [hx], h2.os, h2.tape, h2.output, h2.size, fun b hb => h2.frame b hb fun p L _ hL => by cases hL⟩
    | _ => exact h3.elim
  · cases h

end Go.Dx
