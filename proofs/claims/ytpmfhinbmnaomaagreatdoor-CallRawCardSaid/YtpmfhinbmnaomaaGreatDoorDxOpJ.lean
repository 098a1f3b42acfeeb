/-
  Operations, last part: all of them together; calls and panics.
-/
import Derived.Test.YtpmfhinbmnaomaaGreatDoorDxOpI
set_option linter.unusedSimpArgs false
set_option linter.unusedVariables false
set_option linter.unusedSectionVars false
namespace Go.Dx

section
variable {P : Program} {C : Ctx} {ρ : Ren} {ns : List (Option Tmp)} {ls : AV} {fr : Tr AV} {a : Act} {H H' : Heap} {w : World} {v : AV} {ci : CI} {o : Oper}

theorem op_ok (E : Env P C ρ ns ls fr a H w) (hci : opP P C ns o.op = some ci) (hc : ci.isCall = false) (hev : ci.ev ls fr H = some (v, H')) : OpOk P C.ng ρ H w (execOp a.eval o) v H' := by
  obtain ⟨dst, op, type, pos, after, guard⟩ := o
  have m1 : ∀ {x : Operand} {k : Opd → CI}, (Dx.opd C ns x).map k = some ci → ∃ y, Dx.opd C ns x = some y ∧ ci = k y := by
    intro x k h
    obtain ⟨y, h1, h2⟩ := Option.map_eq_some_iff.1 h
    exact ⟨y, h1, h2.symm⟩
  cases op with
  | move x => obtain ⟨y, hx, rfl⟩ := m1 (k := .mov) hci; exact ok_mov E hx hev
  | assign x => obtain ⟨y, hx, rfl⟩ := m1 (k := .mov) hci; exact ok_mov E hx hev
  | pick c x y =>
    simp only [opP] at hci
    split at hci
    · rename_i h1 h2 h3
      cases hci
      exact ok_pick E h1 h2 h3 hev
    · cases hci
  | alloc t =>
    simp only [opP] at hci
    split at hci
    · rename_i e he
      cases hci
      exact ok_bld E he hev
    · split at hci
      · rename_i z hz
        cases hci
        exact ok_alloc E hz hev
      · cases hci
  | box t x => obtain ⟨y, hx, rfl⟩ := m1 (k := .box) hci; exact ok_box E hx hev
  | build t ps => exact ok_build E hci hev
  | buildSlice t n ps => exact ok_buildSlice E hci hev
  | load t x => exact ok_load E hci hev
  | store t x y => exact ok_store E hci hev
  | nilCheck x => obtain ⟨y, hx, rfl⟩ := m1 (k := .nilCheck) hci; exact ok_nilCheck E hx hev rfl
  | binOp op t x y t' => exact ok_binOp E hci hev
  | unOp op t x => exact ok_unOp E hci hev
  | convert s d x => exact ok_convert E hci hev
  | makeInterface t x => exact ok_makeInterface E hci hev
  | makeFunc fn f c => exact ok_makeFunc E hci hev
  | makeMap t r => exact ok_makeMap E hci hev
  | makeSlice t l c => exact ok_makeSlice E hci hev
  | slice t x lo hi mx => exact ok_slice E hci hev
  | fieldAddr s x j => exact ok_fieldAddr E hci hev
  | field s x j => exact ok_field E hci hev
  | indexAddr t x j => exact ok_indexAddr E hci hev
  | index t x j => exact ok_index E hci hev
  | lookup t m x ok => exact ok_lookup E hci hev
  | mapUpdate t m x y => exact ok_update E hci hev
  | insert t m x y => exact ok_update E (t := t) (m := m) (x := x) (y := y) hci hev
  | typeAssert x xt t ok => exact ok_typeAssert E hci hev
  | extract x j => obtain ⟨y, hx, rfl⟩ := m1 (k := .extract j) hci; exact ok_extract E hx hev
  | panic x => obtain ⟨y, hx, rfl⟩ := m1 (k := .panic) hci; cases hev
  | call c => exact ok_call E hci hc hev type
  | _ => cases hci

theorem opP_noDefer {op : Op} (hci : opP P C ns op = some ci) : ci.isDefer = false := by
  cases op with
  | call c =>
    simp only [opP] at hci
    unfold callP at hci
    repeat' (first | (cases hci; done) | split at hci)
    all_goals first
      | (cases hci; rfl)
      | (simp only [Option.map_eq_some_iff] at hci; obtain ⟨_, _, e⟩ := hci; cases e; rfl)
  | binOp op t x y t' =>
    simp only [opP] at hci
    unfold binP ifacesP at hci
    repeat' (first | (cases hci; done) | split at hci)
    all_goals first
      | (cases hci; rfl)
      | (simp only [Option.map_eq_some_iff] at hci; obtain ⟨_, _, e⟩ := hci; cases e; rfl)
  | _ =>
    simp only [opP] at hci
    repeat' (first | (cases hci; done) | split at hci)
    all_goals first
      | (cases hci; rfl)
      | (simp only [Option.map_eq_some_iff] at hci; obtain ⟨_, _, e⟩ := hci; cases e; rfl)

theorem panic_ok (E : Env P C ρ ns ls fr a H w) {y : Opd} (hci : opP P C ns o.op = some (.panic y)) {t : Nat} {u : AV} (hev : y.ev ls fr = some (.iface t u)) : ∃ x, (execOp a.eval o).run P w = .halt (.panic x) w ∧ RX ρ (.iface t u) [x] := by
  obtain ⟨dst, op, type, pos, after, guard⟩ := o
  cases op with
  | panic x =>
    obtain ⟨y', hx, e⟩ := Option.map_eq_some_iff.1 hci
    cases e
    have hr := E.opd hx hev
    obtain ⟨z, hz, hr'⟩ := hr.iface_eq
    refine ⟨_, ?_, hr⟩
    show (do pure (.value (← Instr.panic (a.eval x))) : Sem Next).run P w = _
    rw [hz]
    rfl
  | call c =>
    exfalso
    simp only [opP] at hci
    unfold callP at hci
    repeat' (first | cases hci | split at hci)
    all_goals (simp only [Option.map_eq_some_iff] at hci; obtain ⟨_, _, e⟩ := hci; cases e)
  | binOp op t x y t' =>
    exfalso
    simp only [opP] at hci
    unfold binP ifacesP at hci
    repeat' (first | cases hci | split at hci)
  | _ =>
    exfalso
    simp only [opP] at hci
    repeat' (first | cases hci | split at hci)
    all_goals (simp only [Option.map_eq_some_iff] at hci; obtain ⟨_, _, e⟩ := hci; cases e)

/-- A function without arguments of which it is known what it answers, and that it leaves memory as it was. -/
def KOk (P : Program) (f : Nat) (v : AV) : Prop :=
  (∃ fn, P.funcs[f]? = some fn ∧ fn.body.isSome = true ∧ fn.name ≠ "runtime.NumGoroutine") ∧ ∃ x, (∀ ρ, RX ρ v [x]) ∧ ∀ w : World, Calls P f #[] w fun e w' => e = .returned x ∧
    w'.os = w.os ∧ w'.tape = w.tape ∧ w'.output = w.output ∧ w.heap.size ≤ w'.heap.size ∧ ∀ b, b < w.heap.size → w'.heap[b]? = w.heap[b]?

/-- A function of which it is known what it answers, at what is related. -/
def NatOk (P : Program) (ng : Nat) (f : Nat) (g : AV → Heap → Option AV) : Prop :=
  (∃ fn, P.funcs[f]? = some fn ∧ fn.body.isSome = true ∧ fn.name ≠ "runtime.NumGoroutine") ∧ ∀ (as v : AV) (H : Heap), g as H = some v → ∀ (ρ : Ren) (w : World) (args : Array Value), HRel P ng ρ H w → RX ρ as args.toList → as.isList = true →
    Calls P f args w fun e w' => ∃ x, e = .returned x ∧ RX ρ v [x] ∧ w'.os = w.os ∧ w'.tape = w.tape ∧ w'.output = w.output ∧ w.heap.size ≤ w'.heap.size ∧ ∀ b, b < w.heap.size → w'.heap[b]? = w.heap[b]?

theorem run_callFunc {f : Nat} {fn : Func} {args : Array Value} (h : P.funcs[f]? = some fn) (hb : fn.body.isSome = true) (hn : fn.name ≠ "runtime.NumGoroutine") (w : World) : (callFunc f args).run P w = .ok (.enter f args) w := by
  show (match P.funcs[f]? with | none => _ | some fn => _ : Sem Next).run P w = _
  simp only [h]
  have h1 : (fn.name == "runtime.NumGoroutine") = false := by simpa using hn
  have h2 : fn.body.isNone = false := by cases hh : fn.body <;> simp [hh] at hb ⊢
  simp only [h1, h2]
  rfl

theorem yield_ok (E : Env P C ρ ns ls fr a H w) {g : Opd} {xs : Opds} (hci : opP P C ns o.op = some (.callV g xs)) {p : Pos} {as : AV} (hg : g.ev ls fr = some (.yield p)) (hxs : xs.ev ls fr = some as) :
    ∃ L, ρ p = some L ∧ ∃ args : Array Value, (execOp a.eval o).run P w = (Instr.yield L.b args).run P w ∧ RX ρ as args.toList ∧ as.isList = true := by
  obtain ⟨dst, op, type, pos, after, guard⟩ := o
  have isCall : ∃ c, op = .call c := by
    cases op with
    | call c => exact ⟨c, rfl⟩
    | binOp op t x y t' =>
      exfalso
      simp only [opP] at hci
      unfold binP ifacesP at hci
      repeat' (first | cases hci | split at hci)
    | _ =>
      exfalso
      simp only [opP] at hci
      repeat' (first | cases hci | split at hci)
      all_goals first
        | (simp only [Option.map_eq_some_iff] at hci; obtain ⟨_, _, e⟩ := hci; cases e; done)
        | (cases hci; done)
  obtain ⟨c, rfl⟩ := isCall
  obtain ⟨cal, args, ats⟩ := c
  simp only [opP] at hci
  unfold callP at hci
  split at hci
  · rename_i g' hg'
    split at hci
    · split at hci
      · obtain ⟨as', has, e⟩ := Option.map_eq_some_iff.1 hci
        cases e
      · exfalso
        repeat' (first | split at hci | cases hci)
    · cases hci
  · rename_i g' hng hg'
    simp only at hg'
    subst hg'
    split at hci
    · rename_i a' b' h1 h2
      cases hci
      obtain ⟨k1, k2⟩ := E.opds h2 hxs
      obtain ⟨L, hL, e1⟩ := E.opd h1 hg
      have hgx : a.eval g' = .func (.yield L.b) #[] #[] := by simpa using e1
      refine ⟨L, hL, args.map a.eval, ?_, by simpa using k1, k2⟩
      show (do let d ← resolve a.eval { callee := .value g', args := args, argTypes := ats } type; invoke d.target d.args : Sem Next).run P w = _
      have : (resolve a.eval { callee := .value g', args := args, argTypes := ats } type).run P w = .ok { target := .fn (.yield L.b) #[], args := #[] ++ args.map a.eval } w := by
        show (Deferred.ofValue (a.eval g') (args.map a.eval)).run P w = _
        rw [hgx]; rfl
      rw [runB this]
      show (Instr.yield L.b (#[] ++ args.map a.eval)).run P w = _
      simp
    · cases hci
  · cases hci
  · exfalso
    repeat' (first | cases hci | split at hci)

theorem call_ok (E : Env P C ρ ns ls fr a H w) (hci : opP P C ns o.op = some ci) {f : Nat} {as : AV} (hev : callee ls fr ci = some (f, as)) {fn : Func} (h : P.funcs[f]? = some fn) (hb : fn.body.isSome = true) (hn : fn.name ≠ "runtime.NumGoroutine") :
    ∃ args : Array Value, (execOp a.eval o).run P w = .ok (.enter f args) w ∧ RX ρ as args.toList ∧ as.isList = true := by
  obtain ⟨dst, op, type, pos, after, guard⟩ := o
  cases op with
  | call c =>
    obtain ⟨cal, args, ats⟩ := c
    simp only [opP] at hci
    unfold callP at hci
    split at hci
    · rename_i g hg
      simp only at hg
      subst hg
      split at hci
      · split at hci
        · obtain ⟨as', has, rfl⟩ := Option.map_eq_some_iff.1 hci
          obtain ⟨vs, hvs, e⟩ := bindO hev
          cases e
          obtain ⟨h1, h2⟩ := E.opds has hvs
          refine ⟨args.map a.eval, ?_, by simpa using h1, h2⟩
          show (do let d ← resolve a.eval { callee := .value (.func f), args := args, argTypes := ats } type; invoke d.target d.args : Sem Next).run P w = _
          have : (resolve a.eval { callee := .value (.func f), args := args, argTypes := ats } type).run P w = .ok { target := .fn (.func f) #[], args := #[] ++ args.map a.eval } w := rfl
          rw [runB this]
          show (callFunc f ((#[] ++ args.map a.eval) ++ #[])).run P w = _
          rw [run_callFunc h hb hn]
          simp
        · repeat' (first | split at hci | cases hci)
          all_goals cases hev
      · cases hci
    · rename_i g hng hg
      simp only at hg
      subst hg
      split at hci
      · rename_i a' b' h1 h2
        cases hci
        simp only [callee] at hev
        obtain ⟨u, hu, g1⟩ := bindO hev
        split at g1
        · rename_i f' x y
          obtain ⟨vs, hvs, e⟩ := bindO g1
          cases e
          obtain ⟨k1, k2⟩ := E.opds h2 hvs
          obtain ⟨xs, ys, _, e1, e2, i1, i2, r1, r2⟩ := E.opd h1 hu
          cases e1
          have hgx : a.eval g = .func (.func f) xs ys := by simpa using e2
          refine ⟨(xs ++ args.map a.eval) ++ ys, ?_, ?_, ?_⟩
          · show (do let d ← resolve a.eval { callee := .value g, args := args, argTypes := ats } type; invoke d.target d.args : Sem Next).run P w = _
            have : (resolve a.eval { callee := .value g, args := args, argTypes := ats } type).run P w = .ok { target := .fn (.func f) ys, args := xs ++ args.map a.eval } w := by
              show (Deferred.ofValue (a.eval g) (args.map a.eval)).run P w = _
              rw [hgx]; rfl
            rw [runB this]
            exact run_callFunc h hb hn w
          · have k1' : RX ρ vs (args.map a.eval).toList := by simpa using k1
            have := r1.app i1 (k1'.app k2 r2)
            simpa [List.append_assoc] using this
          · exact AV.isList_app i1 (AV.isList_app k2 i2)
        · cases g1
      · cases hci
    · cases hci
    · rename_i b hb'
      repeat' (first | cases hci | split at hci)
      all_goals cases hev
  | binOp op t x y t' =>
    exfalso
    simp only [opP] at hci
    unfold binP ifacesP at hci
    repeat' (first | cases hci | split at hci)
    all_goals cases hev
  | _ =>
    exfalso
    simp only [opP] at hci
    repeat' (first | cases hci | split at hci)
    all_goals first
      | (cases hev; done)
      | (simp only [Option.map_eq_some_iff] at hci; obtain ⟨_, _, e⟩ := hci; subst e; cases hev)

theorem defer_ok (E : Env P C ρ ns ls fr a H w) {c : Call} {type : TypeId} (hci : deferP C ns c = some ci) : ∃ g xs, ci = .defer g xs ∧ ∀ f as, callee ls fr (.callV g xs) = some (f, as) →
    ∃ cap dargs : Array Value, (resolve a.eval c type).run P w = .ok { target := .fn (.func f) cap, args := dargs } w ∧ RX ρ as (dargs ++ cap).toList := by
  obtain ⟨cal, args, ats⟩ := c
  have go : ∀ {g : Operand} {b : Opds} {f : Nat} {as u v : AV} {xs ys : Array Value}, cal = .value g → opds C ns args.toList = some b → a.eval g = .func (.func f) xs ys → (∃ us, b.ev ls fr = some us ∧ as = u.app (us.app v)) → u.isList = true → RX ρ u xs.toList → RX ρ v ys.toList →
      ∃ cap dargs : Array Value, (resolve a.eval { callee := cal, args := args, argTypes := ats } type).run P w = .ok { target := .fn (.func f) cap, args := dargs } w ∧ RX ρ as (dargs ++ cap).toList := by
    intro g b f as u v xs ys hg h2 hgx ⟨us, hus, e⟩ i1 r1 r2
    subst hg
    obtain ⟨k1, k2⟩ := E.opds h2 hus
    refine ⟨ys, xs ++ args.map a.eval, ?_, ?_⟩
    · show (Deferred.ofValue (a.eval g) (args.map a.eval)).run P w = _
      rw [hgx]; rfl
    · rw [e]
      have := r1.app i1 (RX.app (by simpa using k1) k2 r2)
      simpa using this
  unfold deferP at hci
  split at hci
  · rename_i g hg
    obtain ⟨xs', has, rfl⟩ := Option.map_eq_some_iff.1 hci
    refine ⟨_, _, rfl, fun f as hc => ?_⟩
    simp only [callee, Opd.ev, Option.bind_eq_bind, Option.bind_some] at hc
    obtain ⟨us, hus, e⟩ := bindO hc
    cases e
    exact go (xs := #[]) (ys := #[]) hg has rfl ⟨us, hus, rfl⟩ rfl rfl rfl
  · rename_i g hng hg
    split at hci
    · rename_i a' b' h1 h2
      cases hci
      refine ⟨_, _, rfl, fun f as hc => ?_⟩
      simp only [callee] at hc
      obtain ⟨u, hu, hc⟩ := bindO hc
      split at hc
      · rename_i f' p q
        obtain ⟨us, hus, e⟩ := bindO hc
        cases e
        obtain ⟨xs, ys, f'', e1, e2, i1, i2, r1, r2⟩ := E.opd h1 hu
        cases e1
        exact go hg h2 (by simpa using e2) ⟨us, hus, rfl⟩ i1 r1 r2
      · cases hc
    · cases hci
  · cases hci

end
end Go.Dx
