/-
  A region that does not draw: what it comes to.
-/
import Derived.Test.YtpmfhinbmnaomaaGreatDoorDxOpJ
import Derived.OrdersIn
import Derived.RangeFuncLeaves
import Derived.RangeFuncRecord
set_option linter.unusedSimpArgs false
set_option linter.unusedVariables false
set_option linter.unusedSectionVars false
namespace Go.Dx

/-- The fence that lets all in: a frame of a function, or of a round of a range over a function. -/
def fz (ro : Option Nat) : Fence := { fn := fun _ => True, depth := none, alive := false, round := ro }
theorem callsIn_fz {ro : Option Nat} {n : Nat} {P : Program} {f : FuncId} {args : Array Value} {w : World} {R : Ending → World → Prop} : CallsIn (fz ro) n P f args w R ↔ Calls P f args w R :=
  (show CallsIn Fence.wide n P f args w R ↔ Calls P f args w R from callsIn_wide)
theorem room_fz (ro : Option Nat) (n : Nat) : (fz ro).room n := fun _ h => by simp [fz] at h

/-- How a call's end stands for one of the model. -/
def EndRel (ρ : Ren) : CR → Ending → Prop
  | .ret v, .returned x => RX ρ v [x]
  | .pan v, .panicked c => ∃ x, c = [{ v := x, recovered := false }] ∧ RX ρ v [x]
  | _, _ => False

/-- Whoever calls gets what the semantics says. -/
def CallOk (P : Program) (ng : Nat) (call : Nat → AV → Heap → Option (CR × Heap)) : Prop :=
  ∀ f as H r H', call f as H = some (r, H') →
    (∃ fn, P.funcs[f]? = some fn ∧ fn.body.isSome = true ∧ fn.name ≠ "runtime.NumGoroutine") ∧
    ∀ ρ w (args : Array Value), HRel P ng ρ H w → RX ρ as args.toList → as.isList = true →
      Calls P f args w fun e w' => ∃ ρ', HRel P ng ρ' H' w' ∧ Step ρ H w ρ' H' w' ∧ EndRel ρ' r e

/-- Whoever calls a round gets what the semantics says. -/
def YldOk (P : Program) (ng : Nat) (yld : Pos → AV → Heap → Option (CR × Heap)) : Prop :=
  ∀ p as H r H', yld p as H = some (r, H') → ∀ ρ w (args : Array Value) L, HRel P ng ρ H w → ρ p = some L → RX ρ as args.toList → as.isList = true →
    ∃ k, w.heap[L.b]? = some (.loop k) ∧ args.size = k.params.size ∧
      RoundIn (fz none) 0 P L.b k.fn ((k.params.zip args).foldl (fun tmps (t, a) => tmps.setIfInBounds t a) k.tmps) k.assign k.body w fun e w' => ∃ ρ', HRel P ng ρ' H' w' ∧ Step ρ H w ρ' H' w' ∧ EndRel ρ' r e
theorem noY_ok (P : Program) (ng : Nat) : YldOk P ng noY := fun _ _ _ _ _ h => by cases h

/-- How code's end stands for one of the model. -/
def ExRel (ρ : Ren) : Ex → Exit → Prop
  | .normal, .normal => True
  | .exit i, .exit j => i = j
  | .goto i, .goto j => i = j
  | .ret, .ret => True
  | .pan v, .panic c => ∃ x, c = [{ v := x, recovered := false }] ∧ RX ρ v [x]
  | _, _ => False

/-- A deferred mark: nothing is deferred there, it is nobody's, and newer than a world. -/
def markD (r : Nat) : Deferred := { target := .collected r, args := #[] }
def MarkAt (w0 : World) (ρ : Ren) (H : Heap) (w : World) (r : Nat) : Prop :=
  w0.heap.size ≤ r ∧ w.heap[r]? = some (.deferred (some [])) ∧ ∀ p L, H.live p = true → ρ p = some L → L.b ≠ r
theorem MarkAt.lt {w0 w : World} {ρ : Ren} {H : Heap} {r : Nat} (h : MarkAt w0 ρ H w r) : r < w.heap.size := by
  rcases Nat.lt_or_ge r w.heap.size with h' | h'
  · exact h'
  · have := h.2.1; rw [Array.getElem?_eq_none h'] at this; cases this
theorem MarkAt.step {w0 w w' : World} {ρ ρ' : Ren} {H H' : Heap} {r : Nat} (h : MarkAt w0 ρ H w r) (hS : Step ρ H w ρ' H' w') : MarkAt w0 ρ' H' w' r := by
  have hr := h.lt
  obtain ⟨h1, h2, h3⟩ := h
  refine ⟨h1, by rw [hS.frame r hr h3]; exact h2, fun p L hl hp e => ?_⟩
  rcases hS.own p L hl hp with hge | ⟨q, M, hq, hM, e2⟩
  · omega
  · exact h3 q M hq hM (e2.trans e)

/-- What a frame keeps of what is deferred. -/
def dl (fr : Tr AV) : AV := (fr.get .h).getD .nil
theorem dl_set {fr : Tr AV} {t : Nat} {v : AV} : dl (fr.set (key (t + 1)) v) = dl fr := by
  unfold dl
  rw [Tr.get_set_ne]
  intro h
  have := key_inj (show key 0 = key (t + 1) from h)
  omega
theorem dl_setDst {C : Ctx} {fr : Tr AV} {d : Option Tmp} {v : AV} : dl (setDst fr (farDst C d) v) = dl fr := by
  cases d with
  | none => rfl
  | some d =>
    simp only [farDst]
    by_cases h : C.far d = true
    · rw [if_pos h]; exact dl_set
    · rw [if_neg h]; rfl
def markOf (d : Deferred) : Option Nat := match d.target with
  | .collected r => some r
  | _ => none
/-- What is deferred, marks among it. -/
inductive Defs (ρ : Ren) (H : Heap) (w0 w : World) : List Deferred → AV → Prop
  | nil : Defs ρ H w0 w [] .nil
  | mark {r : Nat} {ds : List Deferred} {L : AV} : MarkAt w0 ρ H w r → Defs ρ H w0 w ds L → Defs ρ H w0 w (markD r :: ds) L
  | call {f : Nat} {cap dargs : Array Value} {as : AV} {ds : List Deferred} {L : AV} : RX ρ as (dargs ++ cap).toList → Defs ρ H w0 w ds L → Defs ρ H w0 w ({ target := .fn (.func f) cap, args := dargs } :: ds) (.cons (.iface f as) L)
theorem Defs.step {ρ ρ' : Ren} {H H' : Heap} {w0 w w' : World} {ds : List Deferred} {L : AV} (h : Defs ρ H w0 w ds L) (hS : Step ρ H w ρ' H' w') : Defs ρ' H' w0 w' ds L := by
  induction h with
  | nil => exact .nil
  | mark h _ ih => exact .mark (h.step hS) ih
  | call h _ ih => exact .call (h.mono hS.ext) ih
theorem Defs.base {ρ : Ren} {H : Heap} {w0 w1 w : World} {ds : List Deferred} {L : AV} (h : Defs ρ H w1 w ds L) (hn : w0.heap.size ≤ w1.heap.size) : Defs ρ H w0 w ds L := by
  induction h with
  | nil => exact .nil
  | mark h _ ih => exact .mark ⟨Nat.le_trans hn h.1, h.2⟩ ih
  | call h _ ih => exact .call h ih
theorem Defs.append {ρ : Ren} {H : Heap} {w0 w : World} {ds es : List Deferred} {L N : AV} (h : Defs ρ H w0 w ds L) (k : Defs ρ H w0 w es N) : Defs ρ H w0 w (ds ++ es) (L.app N) := by
  induction h with
  | nil => exact k
  | mark h _ ih => exact .mark h ih
  | call h _ ih => exact .call h ih
theorem Defs.at {ρ : Ren} {H : Heap} {w0 w : World} {ds : List Deferred} {L : AV} (h : Defs ρ H w0 w ds L) {r : Nat} (hr : r ∈ ds.filterMap markOf) : MarkAt w0 ρ H w r := by
  induction h with
  | nil => cases hr
  | mark h _ ih =>
    simp only [List.filterMap_cons, markOf, markD, List.mem_cons] at hr
    rcases hr with rfl | hr
    · exact h
    · exact ih hr
  | call h _ ih => exact ih hr
theorem Defs.app_nil {ρ : Ren} {H : Heap} {w0 w : World} {ds : List Deferred} {L : AV} (h : Defs ρ H w0 w ds L) : L.app .nil = L := by
  induction h with
  | nil => rfl
  | mark _ _ ih => exact ih
  | call _ _ ih => show AV.cons _ _ = AV.cons _ _; rw [ih]
theorem Defs.app_assoc {ρ : Ren} {H : Heap} {w0 w : World} {ds : List Deferred} {L : AV} (h : Defs ρ H w0 w ds L) (y z : AV) : (L.app y).app z = L.app (y.app z) := by
  induction h with
  | nil => rfl
  | mark _ _ ih => exact ih
  | call _ _ ih => show AV.cons _ _ = AV.cons _ _; rw [ih]
/-- What code is known to be: without ranges over functions and deferred calls; without deferred calls. -/
abbrev PL := Bool × Bool
structure Fits (pl : PL) (c : CCode) : Prop where
  p : pl.1 = true → c.plain = true
  d : pl.2 = true → c.noDef = true
theorem Fits.seq {pl : PL} {a b : CCode} (h : Fits pl (.seq a b)) : Fits pl a ∧ Fits pl b :=
  ⟨⟨fun e => (Bool.and_eq_true_iff.1 (h.p e)).1, fun e => (Bool.and_eq_true_iff.1 (h.d e)).1⟩, ⟨fun e => (Bool.and_eq_true_iff.1 (h.p e)).2, fun e => (Bool.and_eq_true_iff.1 (h.d e)).2⟩⟩
theorem Fits.cond {pl : PL} {c : Opd} {a b : CCode} (h : Fits pl (.cond c a b)) : Fits pl a ∧ Fits pl b :=
  ⟨⟨fun e => (Bool.and_eq_true_iff.1 (h.p e)).1, fun e => (Bool.and_eq_true_iff.1 (h.d e)).1⟩, ⟨fun e => (Bool.and_eq_true_iff.1 (h.p e)).2, fun e => (Bool.and_eq_true_iff.1 (h.d e)).2⟩⟩
theorem Fits.scope {pl : PL} {a b : CCode} (h : Fits pl (.scope a b)) : Fits pl a ∧ Fits pl b :=
  ⟨⟨fun e => (Bool.and_eq_true_iff.1 (h.p e)).1, fun e => (Bool.and_eq_true_iff.1 (h.d e)).1⟩, ⟨fun e => (Bool.and_eq_true_iff.1 (h.p e)).2, fun e => (Bool.and_eq_true_iff.1 (h.d e)).2⟩⟩
theorem Fits.scope' {pl : PL} {a b : CCode} (ha : Fits pl a) (hb : Fits pl b) : Fits pl (.scope a b) :=
  ⟨fun e => Bool.and_eq_true_iff.2 ⟨ha.p e, hb.p e⟩, fun e => Bool.and_eq_true_iff.2 ⟨ha.d e, hb.d e⟩⟩
theorem Fits.block {pl : PL} {i : Nat} {c : CCode} (h : Fits pl (.block i c)) : Fits pl c := ⟨h.p, h.d⟩
theorem Fits.loop {pl : PL} {c : CCode} (h : Fits pl (.loop c)) : Fits pl c := ⟨h.p, h.d⟩
theorem Fits.tail {pl : PL} {g : Option (Nat × Bool)} {ci : CI} {d : Option Pos} {cs : CIs} (h : Fits pl (.region (.cons g ci d cs))) : Fits pl (.region cs) :=
  ⟨fun e => (Bool.and_eq_true_iff.1 (h.p e)).2, fun e => (Bool.and_eq_true_iff.1 (h.d e)).2⟩
theorem Fits.head {pl : PL} {g : Option (Nat × Bool)} {ci : CI} {d : Option Pos} {cs : CIs} (h : Fits pl (.region (.cons g ci d cs))) (hd : ci.isDefer = true) : pl = (false, false) := by
  obtain ⟨x, y⟩ := pl
  cases x with
  | true => have := (Bool.and_eq_true_iff.1 (h.p rfl)).1; rw [hd] at this; cases this
  | false => cases y with
    | true => have := (Bool.and_eq_true_iff.1 (h.d rfl)).1; rw [hd] at this; cases this
    | false => rfl
theorem Fits.any (c : CCode) : Fits (false, false) c := ⟨fun h => (by cases h), fun h => (by cases h)⟩
/-- What was deferred, ahead of what was there. -/
def Marks (pl : PL) (w0 : World) (ρ : Ren) (H : Heap) (w : World) (ds : List Deferred) (L : AV) (ds' : List Deferred) (L' : AV) : Prop :=
  ∃ (es : List Deferred) (N : AV), (pl.1 = true → es = []) ∧ (pl.2 = true → N = .nil) ∧ ds' = es ++ ds ∧ L' = N.app L ∧ Defs ρ H w0 w es N ∧ (es.filterMap markOf).Nodup
theorem Marks.refl (pl : PL) (w0 : World) (ρ : Ren) (H : Heap) (w : World) (ds : List Deferred) (L : AV) : Marks pl w0 ρ H w ds L ds L := ⟨[], .nil, fun _ => rfl, fun _ => rfl, rfl, rfl, .nil, List.nodup_nil⟩
theorem Marks.base {pl : PL} {w0 w1 : World} {ρ : Ren} {H : Heap} {w : World} {ds ds' : List Deferred} {L L' : AV} (h : Marks pl w1 ρ H w ds L ds' L') (hn : w0.heap.size ≤ w1.heap.size) : Marks pl w0 ρ H w ds L ds' L' := by
  obtain ⟨es, N, h0, h0', h1, h2, h3, h4⟩ := h
  exact ⟨es, N, h0, h0', h1, h2, h3.base hn, h4⟩
theorem Marks.trans {pl : PL} {w0 w w' : World} {ρ ρ' : Ren} {H H' : Heap} {a b c : List Deferred} {A B D : AV} (h : Marks pl w0 ρ H w a A b B) (hn : w0.heap.size ≤ w.heap.size) (hS : Step ρ H w ρ' H' w') (k : Marks pl w ρ' H' w' b B c D) : Marks pl w0 ρ' H' w' a A c D := by
  obtain ⟨n1, N1, z1, y1, rfl, rfl, d1, u1⟩ := h
  obtain ⟨n2, N2, z2, y2, rfl, rfl, d2, u2⟩ := k
  refine ⟨n2 ++ n1, N2.app N1, fun e => by rw [z1 e, z2 e]; rfl, fun e => by rw [y1 e, y2 e]; rfl, by simp, (d2.app_assoc _ _).symm, (d2.base hn).append (d1.step hS), ?_⟩
  rw [List.filterMap_append, List.nodup_append]
  refine ⟨u2, u1, fun x hx y hy e => ?_⟩
  have := (d1.at hy).lt
  have := (d2.at hx).1
  omega

def Post (pl : PL) (P : Program) (C : Ctx) (ρ : Ren) (H : Heap) (w : World) (ds : List Deferred) (L : AV) (r : Ex × Tr AV × Heap) (e : Exit) (a' : Act) (w' : World) : Prop :=
  ∃ ρ', FRel C ρ' r.2.1 a'.tmps ∧ HRel P C.ng ρ' r.2.2 w' ∧ Step ρ H w ρ' r.2.2 w' ∧ Marks pl w ρ' r.2.2 w' ds L a'.defers (dl r.2.1) ∧ ExRel ρ' r.1 e

section
variable {pl : PL}
variable {P : Program} {C : Ctx} {ρ : Ren} {ns : List (Option Tmp)} {ls : AV} {fr : Tr AV} {a : Act} {H H' : Heap} {w : World} {v : AV} {ci : CI} {o : Oper} {ops : Array Oper}

theorem put_tmps_ne {x : Value} {d : Option Tmp} {t : Tmp} (h : d ≠ some t) : (a.put d x).tmps[t]? = a.tmps[t]? := by
  cases d with
  | none => rfl
  | some d =>
    have : d ≠ t := fun e => h (e ▸ rfl)
    simp [Act.put, Array.getElem?_setIfInBounds_ne this]

theorem put_tmps_eq {x : Value} {t : Tmp} (h : t < a.tmps.size) : (a.put (some t) x).tmps[t]? = some x := by
  simp [Act.put, Array.getElem?_setIfInBounds_self_of_lt h]

theorem put_size {x : Value} {d : Option Tmp} : (a.put d x).tmps.size = a.tmps.size := by cases d <;> simp [Act.put]

theorem put_defers {x : Value} {d : Option Tmp} : (a.put d x).defers = a.defers := by cases d <;> rfl

theorem dstOk_lt {d : Tmp} (h : dstOk C ns (some d) = true) : d < C.n ∧ nameAt ns d = none := by
  simpa [dstOk] using h

theorem LRel.put (hL : LRel ρ ns ls a.tmps) (hs : C.n ≤ a.tmps.size) {x : Value} (hx : RX ρ v [x]) {d : Option Tmp} (hd : dstOk C ns d = true) : LRel ρ (d :: ns) (.cons v ls) (a.put d x).tmps := by
  intro t j u hn hu
  unfold nameAt at hn
  rw [List.idxOf?_cons] at hn
  split at hn
  · rename_i e
    have e : d = some t := by simpa using e
    subst e
    cases hn
    simp [AV.nth] at hu
    subst hu
    exact ⟨x, put_tmps_eq (Nat.lt_of_lt_of_le (dstOk_lt hd).1 hs), hx⟩
  · rename_i e
    have e : d ≠ some t := by simpa using e
    obtain ⟨k, hk, rfl⟩ := Option.map_eq_some_iff.1 hn
    obtain ⟨y, hy, hr⟩ := hL t k u hk (by simpa [AV.nth] using hu)
    exact ⟨y, by rw [put_tmps_ne e]; exact hy, hr⟩

theorem FRel.put (hF : FRel C ρ fr a.tmps) {x : Value} (hx : RX ρ v [x]) {d : Option Tmp} (hd : dstOk C ns d = true) : FRel C ρ (setDst fr (farDst C d) v) (a.put d x).tmps := by
  refine ⟨by rw [put_size]; exact hF.size, ?_⟩
  intro t u ht hu
  by_cases e : d = some t
  · subst e
    simp only [farDst, ht, if_true, setDst, Tr.get_set_same] at hu
    cases hu
    exact ⟨x, put_tmps_eq (Nat.lt_of_lt_of_le (dstOk_lt hd).1 hF.size), hx⟩
  · have hu' : fr.get (key (t + 1)) = some u := by
      cases d with
      | none => exact hu
      | some d =>
        simp only [farDst] at hu
        split at hu
        · simp only [setDst] at hu
          rwa [Tr.get_set_ne (fun h => e (by have := key_inj h; simp at this; rw [this]))] at hu
        · exact hu
    obtain ⟨y, hy, hr⟩ := hF.far t u ht hu'
    exact ⟨y, by rw [put_tmps_ne e]; exact hy, hr⟩

theorem FRel.setH {tmps : Array Value} (hF : FRel C ρ fr tmps) : FRel C ρ (fr.set .h v) tmps :=
  ⟨hF.size, fun t u ht hu => hF.far t u ht (by rw [Tr.get_set_ne (fun e => by have := key_inj (show key (t + 1) = key 0 from e); omega)] at hu; exact hu)⟩
theorem LRel.skip {tmps : Array Value} (hL : LRel ρ ns ls tmps) : LRel ρ (none :: ns) (.cons v ls) tmps := by
  intro t j u hn hu
  unfold nameAt at hn
  rw [List.idxOf?_cons] at hn
  split at hn
  · rename_i e; simp at e
  · obtain ⟨k, hk, rfl⟩ := Option.map_eq_some_iff.1 hn
    exact hL t k u hk (by simpa [AV.nth] using hu)
theorem wanted_ok {g : Option (Nat × Bool)} {b : Bool} (hL : LRel ρ ns ls a.tmps) (hg : guardP ops ns o.guard = some g) (hw : wanted ls g = some b) : Region.wanted o (yielded ops a.tmps) = b := by
  unfold Region.wanted
  cases hgd : o.guard with
  | none =>
    rw [hgd] at hg
    simp only [guardP] at hg
    cases hg
    simp [wanted] at hw
    simpa using hw
  | some gb =>
    obtain ⟨j, c⟩ := gb
    rw [hgd] at hg
    simp only [guardP] at hg
    split at hg
    · rename_i d hd
      obtain ⟨k, hk, rfl⟩ := Option.map_eq_some_iff.1 hg
      simp only [wanted] at hw
      split at hw
      · rename_i e hn
        cases hw
        obtain ⟨x, hx, hr⟩ := hL d k _ hk hn
        have := hr.bool_eq
        subst this
        simp only [yielded, hd, Option.bind_some, hx]
        rfl
      · rename_i hn
        cases hw
        obtain ⟨x, hx, hr⟩ := hL d k _ hk hn
        obtain ⟨xs, e, _, hr'⟩ := hr.tuple_eq
        subst e
        simp only [yielded, hd, Option.bind_some, hx]
        rfl
      · cases hw
    · cases hg

/-- An operation that is done: what it comes to, by what it answers. -/
theorem op_wp {ro : Option Nat} {call : Nat → AV → Heap → Option (CR × Heap)} {yld : Pos → AV → Heap → Option (CR × Heap)} (hcall : CallOk P C.ng call) (hyld : YldOk P C.ng yld) (E : Env P C ρ ns ls fr a H w) (hci : opP P C ns o.op = some ci) {r : CR} (hev : CI.run call yld ls fr H ci = some (r, H')) {K : Act → World → Prop} {Q : Exit → Act → World → Prop}
    (hr : ∀ v, r = .ret v → ∀ ρ' w' x, RX ρ' v [x] → HRel P C.ng ρ' H' w' → Step ρ H w ρ' H' w' → K (a.put o.dst x) w')
    (hp : ∀ v, r = .pan v → ∀ ρ' w' x, RX ρ' v [x] → HRel P C.ng ρ' H' w' → Step ρ H w ρ' H' w' → Q (.panic [{ v := x, recovered := false }]) a w') :
    o.wpIn (fz ro) 0 P a w K Q := by
  have hsem : o.semAt (fz ro).round a.eval = execOp a.eval o := Oper.semAt_eq _ _ _ fun c h => by rw [h] at hci; cases hci
  have called : ∀ f as, callee ls fr ci = some (f, as) → call f as H = some (r, H') → o.wpIn (fz ro) 0 P a w K Q := by
    intro f as hc hcl
    obtain ⟨⟨fn, h1, h2, h3⟩, hC⟩ := hcall f as H r H' hcl
    obtain ⟨args, ha, hra, hl⟩ := call_ok E hci hc h1 h2 h3
    unfold Oper.wpIn
    refine ⟨fun _ _ => trivial, ?_⟩
    rw [hsem, ha, Oper.uponIn_enter]
    refine ⟨fun h => (by cases h), callsIn_fz.2 ?_⟩
    refine Calls.mono (hC ρ w args E.H hra hl) ?_
    intro e w' ⟨ρ', k1, k2, k3⟩
    cases r with
    | ret v =>
      cases e with
      | returned x => exact hr v rfl ρ' w' x k3 k1 k2
      | _ => exact k3.elim
    | pan v =>
      cases e with
      | panicked c => obtain ⟨x, rfl, hx⟩ := k3; exact hp v rfl ρ' w' x hx k1 k2
      | _ => exact k3.elim
  have plain : ci.isCall = false → (∀ x, ci ≠ .panic x) → (∃ v, ci.ev ls fr H = some (v, H') ∧ r = .ret v) → o.wpIn (fz ro) 0 P a w K Q := by
    intro hnc hnp ⟨v, hv, e⟩
    obtain ⟨ρ', w', x, nx, r1, r2, r3, r4, r5⟩ := op_ok E hci hnc hv
    unfold Oper.wpIn
    refine ⟨fun _ _ => trivial, ?_⟩
    rw [hsem, r1]
    rcases r2 with rfl | ⟨rfl, rfl⟩
    · exact hr v e ρ' w' x r3 r4 r5
    · exact hr v e ρ' w' _ r3 r4 r5
  cases ci with
  | callF f args =>
    obtain ⟨⟨g, as⟩, h1, h2⟩ := bindO hev
    exact called g as h1 h2
  | callV f args =>
    simp only [CI.run] at hev
    split at hev
    · rename_i p hg
      split at hev
      · rename_i as has
        obtain ⟨L, hL, args', ha, hra, hl⟩ := yield_ok E hci hg has
        obtain ⟨k, h1, h2, h3⟩ := hyld p as H r H' hev ρ w args' L E.H hL hra hl
        unfold Oper.wpIn
        refine ⟨fun _ _ => trivial, ?_⟩
        rw [hsem, ha, run_yield h1 h2, Oper.uponIn_round]
        refine ⟨fun h => (by cases h), ?_⟩
        show RoundIn (fz none) 0 P _ _ _ _ _ _ _
        refine RoundIn.mono h3 ?_
        intro e w' ⟨ρ', k1, k2, k3⟩
        cases r with
        | ret v =>
          cases e with
          | returned x => exact hr v rfl ρ' w' x k3 k1 k2
          | _ => exact k3.elim
        | pan v =>
          cases e with
          | panicked c => obtain ⟨x, rfl, hx⟩ := k3; exact hp v rfl ρ' w' x hx k1 k2
          | _ => exact k3.elim
      · cases hev
    · split at hev
      · rename_i g as h1
        exact called g as h1 hev
      · cases hev
  | panic y =>
    obtain ⟨u, h1, h2⟩ := bindO hev
    split at h2
    · rename_i t z
      cases h2
      obtain ⟨x, hx, hrx⟩ := panic_ok E hci h1
      unfold Oper.wpIn
      refine ⟨fun _ _ => trivial, ?_⟩
      rw [hsem, hx, Oper.uponIn_panic]
      exact hp _ rfl ρ w x hrx E.H (Step.refl ρ H w)
    · cases h2
  | defer f xs => have := opP_noDefer hci; cases this
  | mkMap => exact plain rfl (fun _ h => by cases h) (by cases hev; exact ⟨_, rfl, rfl⟩)
  | lit u => exact plain rfl (fun _ h => by cases h) (by cases hev; exact ⟨_, rfl, rfl⟩)
  | bld t e => exact plain rfl (fun _ h => by cases h) (by cases hev; exact ⟨_, rfl, rfl⟩)
  | _ =>
    refine plain rfl (fun _ h => by cases h) ?_
    obtain ⟨⟨v, H1⟩, h1, h2⟩ := bindO hev
    cases h2
    exact ⟨v, h1, rfl⟩

theorem region_ok {ro : Option Nat} {call : Nat → AV → Heap → Option (CR × Heap)} {yld : Pos → AV → Heap → Option (CR × Heap)} (hcall : CallOk P C.ng call) (hyld : YldOk P C.ng yld) (Q : Exit → Act → World → Prop) : ∀ (l done : List Nat) (cs : CIs) (ls : AV) (fr : Tr AV) (H : Heap) (a : Act) (w : World) (ρ : Ren) (r : RO),
    opsP P C ops l done = some cs → Fits pl (.region cs) → (ro.isSome = true → pl.1 = true) → Env P C ρ (namesOf ops done) ls fr a H w → CIs.run call yld cs ls fr H = some r →
    (∀ e a' w', (match r with
      | .ok _ fr' H' => Post pl P C ρ H w a.defers (dl fr) (.normal, fr', H') e a' w'
      | .pan v fr' H' => Post pl P C ρ H w a.defers (dl fr) (.pan v, fr', H') e a' w') → Q e a' w') →
    wpOpsIn (fz ro) 0 P ops Q l a w := by
  intro l
  induction l with
  | nil =>
    intro done cs ls fr H a w ρ r hc hfit hro E hrun hQ
    simp only [opsP] at hc
    cases hc
    simp only [CIs.run] at hrun
    cases hrun
    exact hQ _ _ _ ⟨ρ, E.F, E.H, Step.refl ρ H w, Marks.refl _ _ _ _ _ _ _, trivial⟩
  | cons i l ih =>
    intro done cs ls fr H a w ρ r hc hfit hro E hrun hQ
    simp only [opsP] at hc
    split at hc
    · cases hc
    · rename_i o ho
      split at hc
      · cases hc
      · rename_i hd
        simp only [Bool.not_eq_true', Bool.not_eq_false] at hd
        split at hc
        · -- a deferred call
          rename_i c hoc
          split at hc
          · cases hc
          rename_i hdg
          simp only [Bool.or_eq_true, not_or, Bool.not_eq_true, Option.isSome_eq_false_iff, Option.isNone_iff_eq_none] at hdg
          obtain ⟨hdst, hgd⟩ := hdg
          split at hc
          · rename_i ci cs' hci hcs
            cases hc
            have hn : namesOf ops (i :: done) = none :: namesOf ops done := by simp [namesOf, ho, hdst]
            obtain ⟨g, xs, rfl, hres⟩ := defer_ok (type := o.type) E hci
            have hpl := hfit.head rfl
            have hrn : ro = none := by
              cases ro with
              | none => rfl
              | some l => have := hro rfl; rw [hpl] at this; cases this
            simp only [CIs.run, wanted, CI.run] at hrun
            cases hcal : callee ls fr (.callV g xs) with
            | none => rw [hcal] at hrun; cases hrun
            | some q =>
              obtain ⟨f, as⟩ := q
              rw [hcal] at hrun
              simp only [Option.bind_eq_bind, Option.bind_some, setDst] at hrun
              obtain ⟨cap, dargs, hr1, hr2⟩ := hres f as hcal
              simp only [wpOpsIn, ho]
              have hw : Region.wanted o (yielded ops a.tmps) = true := by unfold Region.wanted; rw [hgd]
              rw [hw]
              simp only [if_true]
              unfold Oper.wpIn
              refine ⟨fun _ _ => trivial, ?_⟩
              subst hrn
              have hsem : o.semAt (fz none).round a.eval = (do pure (.defer (← resolve a.eval c o.type)) : Sem Next) := by
                show o.semAt none a.eval = _
                rw [Oper.semAt_none]
                unfold execOp
                rw [hoc]
              rw [hsem, runB hr1]
              show Oper.uponIn (fz none) 0 P o a _ Q (.ok (.defer _) w)
              rw [Oper.uponIn_defer, hdst]
              have hdl : dl (fr.set .h (.cons (.iface f as) (dl fr))) = .cons (.iface f as) (dl fr) := by unfold dl; rw [Tr.get_set_same]; rfl
              refine ih (i :: done) cs' (.cons (.cons (.iface f as) (dl fr)) ls) (fr.set .h (.cons (.iface f as) (dl fr))) H _ w ρ r hcs hfit.tail hro ?_ hrun ?_
              · rw [hn]
                exact ⟨E.F.setH, E.L.skip, E.H⟩
              · intro e a' w'' hp
                refine hQ e a' w'' ?_
                rw [hdl] at hp
                have hm : Marks pl w ρ H w a.defers (dl fr) ({ target := .fn (.func f) cap, args := dargs } :: a.defers) (.cons (.iface f as) (dl fr)) :=
                  ⟨[{ target := .fn (.func f) cap, args := dargs }], .cons (.iface f as) .nil, fun h => (by rw [hpl] at h; cases h), fun h => (by rw [hpl] at h; cases h), rfl, rfl, .call hr2 .nil, List.nodup_nil⟩
                cases r <;>
                · obtain ⟨ρ'', p1, p2, p3, p4, p5⟩ := hp
                  exact ⟨ρ'', p1, p2, p3, hm.trans (Nat.le_refl _) p3 p4, p5⟩
          · cases hc
        · -- another operation
          split at hc
          · rename_i g cs' hg hcs
            cases hc
            have hst : CI.run call yld ls fr H stuckCI = none := rfl
            generalize hopt : opP P C (namesOf ops done) o.op = oc at hrun hfit
            have hn : namesOf ops (i :: done) = o.dst :: namesOf ops done := by simp [namesOf, ho]
            simp only [wpOpsIn, ho]
            have next : ∀ ρ' v x H1 w', RX ρ' v [x] → HRel P C.ng ρ' H1 w' → Step ρ H w ρ' H1 w' → CIs.run call yld cs' (.cons v ls) (setDst fr (farDst C o.dst) v) H1 = some r → wpOpsIn (fz ro) 0 P ops Q l (a.put o.dst x) w' := by
              intro ρ' v x H1 w' hx hH hS hrun'
              have E' : Env P C ρ' (namesOf ops (i :: done)) (.cons v ls) (setDst fr (farDst C o.dst) v) (a.put o.dst x) H1 w' := by
                rw [hn]
                exact ⟨(E.F.mono hS.ext).put hx hd, (E.L.mono hS.ext).put E.F.size hx hd, hH⟩
              refine ih (i :: done) cs' _ _ H1 _ w' ρ' r hcs hfit.tail hro E' hrun' ?_
              intro e a' w'' hp
              refine hQ e a' w'' ?_
              rw [put_defers, dl_setDst] at hp
              cases r <;>
              · obtain ⟨ρ'', p1, p2, p3, p4, p5⟩ := hp
                exact ⟨ρ'', p1, p2, hS.trans p3, p4.base hS.size, p5⟩
            simp only [CIs.run] at hrun
            split at hrun
            · cases hrun
            · rename_i hw
              rw [wanted_ok E.L hg hw]
              simp only [Bool.false_eq_true, if_false]
              refine ⟨fun _ _ => trivial, ?_⟩
              exact next ρ undefA undef H w (RX.undef ρ) E.H (Step.refl ρ H w) hrun
            · rename_i hw
              rw [wanted_ok E.L hg hw]
              simp only [if_true]
              cases oc with
              | none => simp only [Option.getD_none, hst] at hrun; cases hrun
              | some ci =>
              have hci := hopt
              simp only [Option.getD_some] at hrun
              split at hrun
              · rename_i v H1 hev
                refine op_wp hcall hyld E hci hev ?_ ?_
                · intro v' e ρ' w' x hx hH hS
                  cases e
                  exact next ρ' v x H1 w' hx hH hS hrun
                · intro v' e; cases e
              · rename_i v H1 hev
                cases hrun
                refine op_wp hcall hyld E hci hev ?_ ?_
                · intro v' e; cases e
                · intro v' e ρ' w' x hx hH hS
                  cases e
                  exact hQ _ _ _ ⟨ρ', E.F.mono hS.ext, hH, hS, Marks.refl _ _ _ _ _ _ _, x, rfl, hx⟩
              · cases hrun
          · cases hc

end
end Go.Dx
