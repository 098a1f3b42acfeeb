/-
  errors.As and errors.Is at two types of errors (errF): what stands for them is what they do, where their walks are known.
-/
import Derived.Test.YtflbicbcphmgoaaGreatDoorDxBld
set_option linter.unusedSimpArgs false
set_option linter.unusedVariables false
set_option linter.unusedSectionVars false
set_option linter.unusedVariables false
namespace Go.Dx
variable {P : Program}

/-- Some objects more, and nothing else. -/
def More (w w' : World) : Prop := ∃ l : List Obj, w'.heap = l.foldl Array.push w.heap ∧ w'.os = w.os ∧ w'.tape = w.tape ∧ w'.output = w.output
theorem More.refl (w : World) : More w w := ⟨[], rfl, rfl, rfl, rfl⟩
theorem More.alloc {w w' : World} (h : More w w') (o : Obj) : More w (w'.alloc o) := by
  obtain ⟨l, h1, h2, h3, h4⟩ := h
  refine ⟨l ++ [o], ?_, h2, h3, h4⟩
  show w'.heap.push o = _
  rw [h1, List.foldl_append]
  rfl
theorem More.drew {w w' : World} (h : More w w') : More w w'.drew := h

theorem HRel.more {ng : Nat} {ρ : Ren} {H : Heap} {w w' : World} (h : HRel P ng ρ H w) (hm : More w w') : HRel P ng ρ H w' ∧ Step ρ H w ρ H w' := by
  obtain ⟨l, h1, h2, h3, h4⟩ := hm
  have key : ∀ (l : List Obj) (w0 : World), HRel P ng ρ H w0 → Step ρ H w ρ H w0 → ∀ w' : World, w'.heap = l.foldl Array.push w0.heap → w'.os = w0.os → w'.tape = w0.tape → w'.output = w0.output → HRel P ng ρ H w' ∧ Step ρ H w ρ H w' := by
    intro l
    induction l with
    | nil => intro w0 a b w' e1 e2 e3 e4; exact ⟨a.drew e1, b.trans (Step.drew e1 e2 e3 e4)⟩
    | cons o l ih =>
      intro w0 a b w' e1 e2 e3 e4
      exact ih (w0.alloc o) (a.extra (o := o) rfl) (b.trans (Step.extra (o := o) rfl rfl rfl rfl)) w' e1 e2 e3 e4
  exact key l w h (Step.refl _ _ _) w' h1 h2 h3 h4

/-- The walks of errors.As: its target's own type, or not. -/
structure AsCalls (P : Program) (f a b c d rt nb e g : Nat) : Prop where
  hitA : ∀ (x t : Addr) (w : World), w.cell? ⟨g, 0, none⟩ = some (.iface rt (.agg #[.pointer (some ⟨nb, e, none⟩)])) → ∃ w4, More w w4 ∧ ∀ w', (storeCells t [.pointer (some x)]).run P w4 = .ok () w' →
    Calls P f #[.iface a (.pointer (some x)), .iface b (.pointer (some t))] w fun ev w'' => ev = .returned (.bool true) ∧ w'' = w'
  hitC : ∀ (n : Int) (t : Addr) (w : World), w.cell? ⟨g, 0, none⟩ = some (.iface rt (.agg #[.pointer (some ⟨nb, e, none⟩)])) → ∃ w4, More w w4 ∧ ∀ w', (storeCells t [.int .i64 n]).run P w4 = .ok () w' →
    Calls P f #[.iface c (.int .i64 n), .iface d (.pointer (some t))] w fun ev w'' => ev = .returned (.bool true) ∧ w'' = w'
  miss : ∀ (n : Int) (t : Addr) (w : World), w.cell? ⟨g, 0, none⟩ = some (.iface rt (.agg #[.pointer (some ⟨nb, e, none⟩)])) → ∃ w4, More w w4 ∧
    Calls P f #[.iface c (.int .i64 n), .iface b (.pointer (some t))] w fun ev w'' => ev = .returned (.bool false) ∧ w'' = w4

  none_ : ∀ (t : Nat) (y : Value) (w : World), Calls P f #[.nilIface, .iface t y] w fun ev w' => ev = .returned (.bool false) ∧ More w w'

/-- The walks of errors.Is. -/
structure IsCalls (P : Program) (f a c : Nat) : Prop where
  isA : ∀ (x : Addr) (m n : Int) (w : World), w.cell? x = some (.int .i64 m) → Calls P f #[.iface a (.pointer (some x)), .iface c (.int .i64 n)] w fun ev w' => ev = .returned (.bool (decide (m = n))) ∧ More w w'
  isC : ∀ (m n : Int) (w : World), Calls P f #[.iface c (.int .i64 m), .iface c (.int .i64 n)] w fun ev w' => ev = .returned (.bool (decide (m = n))) ∧ More w w'
  none_ : ∀ (t : Nat) (y : Value) (w : World), Calls P f #[.nilIface, .iface t y] w fun ev w' => ev = .returned (.bool false) ∧ More w w'

theorem act_err {k : Nat} (gs : AV) (H : Heap) : actF (k + 1048577) gs H = errF k gs H := by
  obtain ⟨j, hj⟩ : ∃ j, j = k + 1048576 := ⟨_, rfl⟩
  have e : k + 1048577 = j + 1 := by omega
  rw [e]
  have hb : Nat.ble 1048576 j = true := Nat.ble_eq_true_of_le (by omega)
  have hs : j - 1048576 = k := by omega
  unfold actF
  simp only [hb, hs]

/-- What the handle's variable holds. -/
theorem handle_cell {ng : Nat} {ρ : Ren} {H : Heap} {w : World} (hH : HRel P ng ρ H w) {g nb rt e : Nat} (hg : g < ng) (hn : nb < ng) {tr : Tr AV} (hr : H.get (key g) = some (.ro tr)) (ht : tr.get (key 0) = some (.iface rt (.agg (.cons (.ptr (key nb) e) .nil)))) :
    w.cell? ⟨g, 0, none⟩ = some (.iface rt (.agg #[.pointer (some ⟨nb, e, none⟩)])) := by
  obtain ⟨sz, hsz⟩ := hH.globals g hg
  obtain ⟨sn, hsn⟩ := hH.globals nb hn
  obtain ⟨c, el, fr, hc, hcs⟩ := hH.objs (key g) _ _ hr (by simp) hsz
  obtain ⟨y, hy, ⟨x, e1, x1, e2, _, y1, r1, e3, ⟨L, hL, e4⟩, e5⟩, _⟩ := hcs 0 _ ht
  rw [hsn] at hL
  cases hL
  cases e1
  cases e2
  cases e4
  subst e5
  have hx : x1 = #[.pointer (some ⟨nb, 0 + e, none⟩)] := Array.ext' e3
  subst hx
  rw [cell_eq hc]
  have hy : c[0]? = some (Value.iface rt (Value.agg #[Value.pointer (some { block := nb, off := 0 + e })])) := by simpa using hy
  rw [Nat.zero_add] at hy
  exact hy

theorem as_ok {f a b c d rt nb e g ng k n : Nat} (E : AsCalls P f a b c d rt nb e g) (hn : n = k + 1048577) (hg : g < ng) (hb : nb < ng) (h0 : k % 1024 = 0) (h1 : k / 1024 % 1024 = a) (h2 : k / 1024 ^ 2 % 1024 = b) (h3 : k / 1024 ^ 3 % 1024 = c) (h4 : k / 1024 ^ 4 % 1024 = d)
    (h5 : k / 1024 ^ 5 % 1024 = rt) (h6 : k / 1024 ^ 6 % 1024 = nb) (h7 : k / 1024 ^ 7 % 1024 = e) (h8 : k / 1024 ^ 8 % 1024 = g) (hfn : ∃ fn, P.funcs[f]? = some fn ∧ fn.body.isSome = true ∧ fn.name ≠ "runtime.NumGoroutine") : ActOk P ng f n := by
  refine ⟨hfn, ?_⟩
  subst hn
  intro gs v H H' ha ρ w args hH hR hl
  rw [act_err] at ha
  unfold errF at ha
  rw [h0, h1, h2, h3, h4, h5, h6, h7, h8] at ha
  split at ha
  · rename_i t v1 t' u
    obtain ⟨x1, r1, e1, ⟨y1, e2, hv⟩, x2, r2, e3, ⟨y2, e4, hu⟩, e5⟩ := hR
    cases e2
    cases e4
    subst e5 e3
    have hargs : args = #[.iface t y1, .iface t' y2] := Array.ext' e1
    subst hargs
    simp only [show Nat.beq 0 0 = true from rfl] at ha
    split at ha
    · rename_i tr q off hr
      obtain ⟨Lq, hLq, e6⟩ := hu
      cases e6
      split at ha
      · rename_i rt' nb' e' ht
        split at ha
        · rename_i hc
          obtain ⟨rfl, rfl, rfl⟩ := hc
          have hcell := handle_cell hH hg hb hr ht
          split at ha
          · rename_i p o
            split at ha
            · rename_i htt
              obtain ⟨rfl, rfl⟩ := htt
              simp only [Option.map_eq_some_iff] at ha
              obtain ⟨H2, hs, e7⟩ := ha
              cases e7
              obtain ⟨Lp, hLp, e8⟩ := hv
              cases e8
              obtain ⟨w4, hm, hcall⟩ := E.hitA ⟨Lp.b, Lp.base + o, none⟩ ⟨Lq.b, Lq.base + off, none⟩ w hcell
              obtain ⟨k1, k2⟩ := hH.more hm
              obtain ⟨w', s1, s2, s3⟩ := k1.store hs hLq (xs := [.pointer (some ⟨Lp.b, Lp.base + o, none⟩)]) ⟨_, _, rfl, ⟨Lp, hLp, rfl⟩, rfl⟩
              refine (hcall w' s1).mono ?_
              rintro ev w'' ⟨rfl, rfl⟩
              exact ⟨_, ρ, rfl, rfl, s2, k2.trans s3⟩
            · cases ha
          · rename_i m
            split at ha
            · rename_i htt
              obtain ⟨rfl, rfl⟩ := htt
              simp only [Option.map_eq_some_iff] at ha
              obtain ⟨H2, hs, e7⟩ := ha
              cases e7
              obtain ⟨h8', e8⟩ := hv
              cases e8
              obtain ⟨w4, hm, hcall⟩ := E.hitC m ⟨Lq.b, Lq.base + off, none⟩ w hcell
              obtain ⟨k1, k2⟩ := hH.more hm
              obtain ⟨w', s1, s2, s3⟩ := k1.store hs hLq (xs := [.int .i64 m]) ⟨_, _, rfl, ⟨h8', rfl⟩, rfl⟩
              refine (hcall w' s1).mono ?_
              rintro ev w'' ⟨rfl, rfl⟩
              exact ⟨_, ρ, rfl, rfl, s2, k2.trans s3⟩
            · split at ha
              · rename_i htt
                obtain ⟨rfl, rfl⟩ := htt
                cases ha
                obtain ⟨h8', e8⟩ := hv
                cases e8
                obtain ⟨w4, hm, hcall⟩ := E.miss m ⟨Lq.b, Lq.base + off, none⟩ w hcell
                obtain ⟨k1, k2⟩ := hH.more hm
                refine hcall.mono ?_
                rintro ev w'' ⟨rfl, rfl⟩
                exact ⟨_, ρ, rfl, rfl, k1, k2⟩
              · cases ha
          · cases ha
        · cases ha
      · cases ha
    · cases ha
  · cases ha
    obtain ⟨x1, r1, e1, e2, x2, r2, e3, ⟨y2, e4, hu⟩, e5⟩ := hR
    cases e2
    cases e4
    subst e5 e3
    have hargs : args = #[.nilIface, .iface _ y2] := Array.ext' e1
    subst hargs
    refine (E.none_ _ _ w).mono ?_
    rintro ev w' ⟨rfl, hm⟩
    obtain ⟨k1, k2⟩ := hH.more hm
    exact ⟨_, ρ, rfl, rfl, k1, k2⟩
  · cases ha

theorem is_ok {f a c ng k n : Nat} (E : IsCalls P f a c) (hn : n = k + 1048577) (h0 : k % 1024 = 1) (h1 : k / 1024 % 1024 = a) (h3 : k / 1024 ^ 3 % 1024 = c) (hfn : ∃ fn, P.funcs[f]? = some fn ∧ fn.body.isSome = true ∧ fn.name ≠ "runtime.NumGoroutine") : ActOk P ng f n := by
  refine ⟨hfn, ?_⟩
  subst hn
  intro gs v H H' ha ρ w args hH hR hl
  rw [act_err] at ha
  unfold errF at ha
  rw [h0, h1, h3] at ha
  split at ha
  · rename_i t v1 t' u
    obtain ⟨x1, r1, e1, ⟨y1, e2, hv⟩, x2, r2, e3, ⟨y2, e4, hu⟩, e5⟩ := hR
    cases e2
    cases e4
    subst e5 e3
    have hargs : args = #[.iface t y1, .iface t' y2] := Array.ext' e1
    subst hargs
    simp only [show Nat.beq 1 0 = false from rfl] at ha
    split at ha
    · rename_i p off m
      obtain ⟨_, e6⟩ := hu
      cases e6
      obtain ⟨Lp, hLp, e8⟩ := hv
      cases e8
      split at ha
      · rename_i m' hcell
        split at ha
        · rename_i htt
          obtain ⟨rfl, rfl⟩ := htt
          cases ha
          obtain ⟨x, hx, ⟨_, hr⟩⟩ := hH.cell hcell hLp
          cases hr
          refine (E.isA _ m' m w hx).mono ?_
          rintro ev w' ⟨rfl, hm⟩
          obtain ⟨k1, k2⟩ := hH.more hm
          exact ⟨_, ρ, rfl, rfl, k1, k2⟩
        · cases ha
      · cases ha
    · rename_i m n'
      split at ha
      · rename_i htt
        obtain ⟨rfl, rfl⟩ := htt
        cases ha
        obtain ⟨_, e6⟩ := hu
        cases e6
        obtain ⟨_, e8⟩ := hv
        cases e8
        refine (E.isC m n' w).mono ?_
        rintro ev w' ⟨rfl, hm⟩
        obtain ⟨k1, k2⟩ := hH.more hm
        exact ⟨_, ρ, rfl, rfl, k1, k2⟩
      · cases ha
    · cases ha
  · cases ha
    obtain ⟨x1, r1, e1, e2, x2, r2, e3, ⟨y2, e4, hu⟩, e5⟩ := hR
    cases e2
    cases e4
    subst e5 e3
    have hargs : args = #[.nilIface, .iface _ y2] := Array.ext' e1
    subst hargs
    refine (E.none_ _ _ w).mono ?_
    rintro ev w' ⟨rfl, hm⟩
    obtain ⟨k1, k2⟩ := hH.more hm
    exact ⟨_, ρ, rfl, rfl, k1, k2⟩
  · cases ha
end Go.Dx
