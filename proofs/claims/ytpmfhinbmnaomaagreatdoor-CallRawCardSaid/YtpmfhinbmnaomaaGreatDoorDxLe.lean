/-
  More fuel answers the same; what does not ask memory.
-/
import Derived.Test.YtpmfhinbmnaomaaGreatDoorDxTrace
set_option linter.unusedSimpArgs false
set_option linter.unusedVariables false
set_option linter.unusedSectionVars false
namespace Go.Dx

/-! More fuel answers the same. -/
def Le {α β γ δ : Type} (f g : α → β → γ → Option δ) : Prop := ∀ a b c r, f a b c = some r → g a b c = some r

section
variable {call call' : Nat → AV → Heap → Option (CR × Heap)} {yld yld' : Pos → AV → Heap → Option (CR × Heap)}
theorem CI.run_le (h : Le call call') (hy : Le yld yld') {ls : AV} {fr : Tr AV} {H : Heap} {ci : CI} {r : CR × Heap} (hr : CI.run call yld ls fr H ci = some r) : CI.run call' yld' ls fr H ci = some r := by
  cases ci with
  | callF f args =>
    simp only [CI.run] at hr ⊢
    cases hc : callee ls fr (.callF f args) with
    | none => rw [hc] at hr; cases hr
    | some q => rw [hc] at hr; exact h _ _ _ _ hr
  | callV f args =>
    simp only [CI.run] at hr ⊢
    split at hr
    · split at hr
      · exact hy _ _ _ _ hr
      · cases hr
    · split at hr
      · exact h _ _ _ _ hr
      · cases hr
  | _ => exact hr
theorem CIs.run_le (h : Le call call') (hy : Le yld yld') : ∀ {cs : CIs} {ls : AV} {fr : Tr AV} {H : Heap} {r : RO}, CIs.run call yld cs ls fr H = some r → CIs.run call' yld' cs ls fr H = some r := by
  intro cs
  induction cs with
  | nil => intro ls fr H r hr; exact hr
  | cons g ci dst rest ih =>
    intro ls fr H r hr
    simp only [CIs.run] at hr ⊢
    split at hr
    · cases hr
    · exact ih hr
    · split at hr
      · rename_i v H' he; rw [CI.run_le h hy he]; exact ih hr
      · rename_i v H' he; rw [CI.run_le h hy he]; exact hr
      · cases hr
theorem DIs.run_le (h : Le call call') : ∀ {ds : DIs} {R : List Pos} {Hs : List Heap} {ls : AV} {fr : Tr AV} {H : Heap} {r : Tr AV × Heap}, DIs.run call ds R Hs ls fr H = some r → DIs.run call' ds R Hs ls fr H = some r := by
  intro ds
  induction ds with
  | nil => intro R Hs ls fr H r hr; exact hr
  | cons g ci dst k rest ih =>
    intro R Hs ls fr H r hr
    simp only [DIs.run] at hr ⊢
    split at hr
    · cases hr
    · exact ih hr
    · cases k with
      | heavy =>
        simp only at hr ⊢
        split at hr
        · rename_i v H' he; rw [CI.run_le h (fun _ _ _ _ h => h) he]; exact ih hr
        · cases hr
      | light bk =>
        simp only at hr ⊢
        split at hr
        · split at hr
          · rw [if_pos (by assumption)]; exact ih hr
          · cases hr
        · cases hr
      | float =>
        simp only at hr ⊢
        split at hr
        · cases hr
        · split at hr
          · split at hr
            · exact ih hr
            · cases hr
          · cases hr
theorem DIs.pan_le (h : Le call call') : ∀ {ds : DIs} {R : List Pos} {Hs : List Heap} {ls : AV} {fr : Tr AV} {H : Heap} {r : AV × Tr AV × Heap}, DIs.pan call ds R Hs ls fr H = some r → DIs.pan call' ds R Hs ls fr H = some r := by
  intro ds
  induction ds with
  | nil => intro R Hs ls fr H r hr; exact hr
  | cons g ci dst k rest ih =>
    intro R Hs ls fr H r hr
    simp only [DIs.pan] at hr ⊢
    split at hr
    · cases hr
    · exact ih hr
    · cases k with
      | heavy =>
        simp only at hr ⊢
        split at hr
        · rename_i v H' he; rw [CI.run_le h (fun _ _ _ _ h => h) he]; exact ih hr
        · rename_i v H' he; rw [CI.run_le h (fun _ _ _ _ h => h) he]; exact hr
        · cases hr
      | light bk =>
        simp only at hr ⊢
        split at hr
        · split at hr
          · rw [if_pos (by assumption)]; exact ih hr
          · cases hr
        · cases hr
      | float =>
        simp only at hr ⊢
        split at hr
        · cases hr
        · split at hr
          · split at hr
            · exact ih hr
            · cases hr
          · cases hr
/-- What throws does not end. -/
theorem DIs.run_none (h : Le call call') : ∀ {ds : DIs} {R : List Pos} {Hs : List Heap} {ls : AV} {fr : Tr AV} {H : Heap} {r : AV × Tr AV × Heap}, DIs.pan call ds R Hs ls fr H = some r → DIs.run call' ds R Hs ls fr H = none := by
  intro ds
  induction ds with
  | nil => intro R Hs ls fr H r hr; cases hr
  | cons g ci dst k rest ih =>
    intro R Hs ls fr H r hr
    simp only [DIs.pan] at hr
    simp only [DIs.run]
    split at hr
    · cases hr
    · exact ih hr
    · cases k with
      | heavy =>
        simp only at hr ⊢
        split at hr
        · rename_i v H' he; rw [CI.run_le h (fun _ _ _ _ h => h) he]; exact ih hr
        · rename_i v H' he; rw [CI.run_le h (fun _ _ _ _ h => h) he]
        · cases hr
      | light bk =>
        simp only at hr ⊢
        split at hr
        · split at hr
          · rw [if_pos (by assumption)]; exact ih hr
          · cases hr
        · cases hr
      | float =>
        simp only at hr ⊢
        split at hr
        · cases hr
        · split at hr
          · split at hr
            · exact ih hr
            · cases hr
          · cases hr
end

section
variable {tbl : Nat → Option CFunc} {rec rec' : CCode → Tr AV → Heap → Option (Ex × Tr AV × Heap)}
theorem doCallD_le (h : Le rec rec') {f : Nat} {as m : AV} {H : Heap} {r : AV × Heap} (hr : doCallD tbl rec f as m H = some r) : doCallD tbl rec' f as m H = some r := by
  unfold doCallD at hr ⊢
  cases h1 : tbl f with
  | none => rw [h1] at hr; cases hr
  | some cf =>
    rw [h1] at hr
    simp only at hr ⊢
    cases hk : cf.konst with
    | some k =>
      cases k with
      | recov =>
        rw [hk] at hr
        simp only at hr ⊢
        cases h2 : enterFr as 0 .leaf with
        | none => rw [h2] at hr; cases hr
        | some fr =>
          rw [h2] at hr
          simp only at hr ⊢
          cases h3 : rec cf.body (fr.set .h m) H with
          | none => rw [h3] at hr; cases hr
          | some x => rw [h3] at hr; rw [h _ _ _ _ h3]; exact hr
      | _ => rw [hk] at hr; cases hr
    | none =>
      rw [hk] at hr
      simp only at hr ⊢
      cases hp : cf.body.plain with
      | false => rw [hp] at hr; cases hr
      | true =>
        rw [hp] at hr
        simp only [if_true] at hr ⊢
        cases h2 : enterFr as 0 .leaf with
        | none => rw [h2] at hr; cases hr
        | some fr =>
          rw [h2] at hr
          simp only at hr ⊢
          cases h3 : rec cf.body fr H with
          | none => rw [h3] at hr; simp [finish] at hr
          | some x => rw [h3] at hr; rw [h _ _ _ _ h3]; exact hr
theorem leave_le {cd cd' : Nat → AV → AV → Heap → Option (AV × Heap)} (h : ∀ f as m H r, cd f as m H = some r → cd' f as m H = some r) {rs : List CRes} {fr : Tr AV} : ∀ {L m : AV} {H : Heap} {r : CR × Heap}, leave cd rs fr L m H = some r → leave cd' rs fr L m H = some r := by
  intro L
  induction L with
  | nil => intro m H r hr; exact hr
  | cons d L _ ih =>
    intro m H r hr
    cases d with
    | iface f as =>
      simp only [leave] at hr ⊢
      split at hr
      · rename_i h1; rw [h _ _ _ _ _ h1]; exact ih hr
      · cases hr
    | _ => cases hr
  | _ => intro m H r hr; cases hr
theorem finishD_le {cd cd' : Nat → AV → AV → Heap → Option (AV × Heap)} (h : ∀ f as m H r, cd f as m H = some r → cd' f as m H = some r) {cf : CFunc} {q : Option (Ex × Tr AV × Heap)} {r : CR × Heap} (hr : finishD cd cf q = some r) : finishD cd' cf q = some r := by
  cases q with
  | none => cases hr
  | some q =>
    obtain ⟨e, fr, H⟩ := q
    cases e with
    | normal => exact leave_le h hr
    | ret => exact leave_le h hr
    | pan v =>
      simp only [finishD] at hr ⊢
      split at hr
      · exact leave_le h hr
      · cases hr
    | exit _ => cases hr
    | goto _ => cases hr
theorem doCall_le (h : Le rec rec') : Le (doCall tbl rec) (doCall tbl rec') := by
  intro f as H r hr
  unfold doCall at hr ⊢
  cases h1 : tbl f with
  | none => rw [h1] at hr; cases hr
  | some cf =>
    rw [h1] at hr
    simp only at hr ⊢
    cases hk : cf.konst with
    | some k => cases k with
      | val v => rw [hk] at hr; exact hr
      | nat g => rw [hk] at hr; exact hr
      | act k => rw [hk] at hr; exact hr
      | recov => rw [hk] at hr; cases hr
      | dfr =>
        rw [hk] at hr
        simp only at hr ⊢
        cases h2 : enterFr as 0 .leaf with
        | none => rw [h2] at hr; cases hr
        | some fr =>
          rw [h2] at hr
          simp only at hr ⊢
          cases h3 : rec cf.body fr H with
          | none => rw [h3] at hr; simp [finishD] at hr
          | some x => rw [h3] at hr; rw [h _ _ _ _ h3]; exact finishD_le (fun _ _ _ _ _ => doCallD_le h) hr
    | none =>
      rw [hk] at hr
      simp only at hr ⊢
      cases h2 : enterFr as 0 .leaf with
      | none => rw [h2] at hr; cases hr
      | some fr =>
        rw [h2] at hr
        simp only at hr ⊢
        cases h3 : rec cf.body fr H with
        | none => rw [h3] at hr; simp [finish] at hr
        | some x => rw [h3] at hr; rw [h _ _ _ _ h3]; exact hr
theorem doYield_le (h : Le rec rec') : Le (doYield rec) (doYield rec') := by
  intro p as H r hr
  unfold doYield at hr ⊢
  split at hr
  · rename_i h0
    try simp only [h0]
    split at hr
    · cases hr
    · rename_i h1
      try simp only [h1]
      split at hr
      · rename_i h2
        simp only [h _ _ _ _ h2]
        split at hr
        · rename_i h3
          try simp only [h3]
          split at hr
          · rename_i h4
            simp only [h _ _ _ _ h4]
            exact hr
          · cases hr
        · cases hr
      · cases hr
  · cases hr
theorem stepC_le (h : Le rec rec') : Le (stepC tbl rec) (stepC tbl rec') := by
  intro c fr H r hr
  cases c with
  | region cs =>
    simp only [stepC] at hr ⊢
    split at hr
    · rename_i he; rw [CIs.run_le (doCall_le h) (doYield_le h) he]; exact hr
    · rename_i he; rw [CIs.run_le (doCall_le h) (doYield_le h) he]; exact hr
    · cases hr
  | draw ds nf =>
    simp only [stepC] at hr ⊢
    split at hr
    · rename_i he; rw [DIs.run_le (doCall_le h) he]; exact hr
    · split at hr
      · rename_i he; rw [DIs.run_none (doCall_le h) he, DIs.pan_le (doCall_le h) he]; exact hr
      · cases hr
  | seq a b =>
    simp only [stepC] at hr ⊢
    cases h1 : rec a fr H with
    | none => rw [h1] at hr; cases hr
    | some x =>
      rw [h1] at hr
      rw [h _ _ _ _ h1]
      obtain ⟨e, fr', H'⟩ := x
      cases e <;> first | exact hr | exact h _ _ _ _ hr
  | cond x a b =>
    simp only [stepC] at hr ⊢
    split at hr
    · exact h _ _ _ _ hr
    · exact h _ _ _ _ hr
    · cases hr
  | block id c =>
    simp only [stepC] at hr ⊢
    cases h1 : rec c fr H with
    | none => rw [h1] at hr; cases hr
    | some x => rw [h1] at hr; rw [h _ _ _ _ h1]; exact hr
  | loop c =>
    simp only [stepC] at hr ⊢
    cases h1 : rec c fr H with
    | none => rw [h1] at hr; cases hr
    | some x =>
      rw [h1] at hr
      rw [h _ _ _ _ h1]
      obtain ⟨e, fr', H'⟩ := x
      cases e <;> first | exact hr | exact h _ _ _ _ hr
  | scope rest c =>
    simp only [stepC] at hr ⊢
    cases h1 : rec rest fr H with
    | none => rw [h1] at hr; cases hr
    | some x =>
      rw [h1] at hr
      rw [h _ _ _ _ h1]
      obtain ⟨e, fr', H'⟩ := x
      cases e with
      | goto l =>
        simp only at hr ⊢
        cases h2 : findLabelC c l with
        | none => rw [h2] at hr; exact hr
        | some r' => rw [h2] at hr; exact h _ _ _ _ hr
      | _ => exact hr
  | rangeFunc g ps asg body sa sb n far =>
    simp only [stepC] at hr ⊢
    split at hr
    · rename_i hg
      try simp only [hg]
      split at hr
      · rename_i h1; rw [doCall_le h _ _ _ _ h1]; exact hr
      · rename_i h1; rw [doCall_le h _ _ _ _ h1]; exact hr
      · cases hr
    · cases hr
  | _ => exact hr

theorem run_le_succ (n : Nat) : Le (run tbl n) (run tbl (n + 1)) := by
  induction n with
  | zero => intro c fr H r hr; cases hr
  | succ n ih => intro c fr H r hr; exact stepC_le ih c fr H r hr
theorem run_le {m n : Nat} (h : m ≤ n) : Le (run tbl m) (run tbl n) := by
  induction n with
  | zero => have : m = 0 := by omega
            subst this; intro c fr H r hr; exact hr
  | succ n ih =>
    rcases Nat.lt_or_ge m (n + 1) with h1 | h1
    · intro c fr H r hr; exact run_le_succ n c fr H r (ih (by omega) c fr H r hr)
    · have : m = n + 1 := by omega
      subst this; intro c fr H r hr; exact hr
theorem callN_le {m n : Nat} (h : m ≤ n) : Le (callN tbl m) (callN tbl n) := doCall_le (run_le h)
abbrev yldN (tbl : Nat → Option CFunc) (n : Nat) := doYield (run tbl n)
theorem yldN_le {m n : Nat} (h : m ≤ n) : Le (yldN tbl m) (yldN tbl n) := doYield_le (run_le h)
end

/-- Does an instruction not ask memory at all? -/
def CI.free : CI → Bool
  | .mov _ | .pick .. | .build .. | .nilCheck _ | .arith .. | .shift .. | .cmp .. | .cat .. | .scmp .. | .neg _ | .compl _ | .not _ | .convInt .. | .same _ | .mkIface .. | .mkFunc .. | .sliceStr .. | .sliceArr .. | .fieldAddr .. | .field1 .. | .fieldN .. | .idxSl .. | .idxArr .. | .idxAgg1 .. | .idxAggN .. | .idxStr .. | .assert .. | .extract .. | .lenStr _ | .lenSl _ | .capSl _ | .lit _ | .min .. | .max .. => true
  | _ => false

theorem AV.beq_refl : ∀ (v : AV), AV.beq v v = true := by
  intro v
  induction v with
  | func f a b iha ihb => simp [AV.beq, iha, ihb]
  | iface t v ih => simp [AV.beq, ih]
  | agg v ih => simpa [AV.beq] using ih
  | tuple v ih => simpa [AV.beq] using ih
  | cons a r iha ihr => simp [AV.beq, iha, ihr]
  | _ => simp [AV.beq]

theorem CI.free_ev {ci : CI} (hf : ci.free = true) {ls : AV} {fr : Tr AV} {H : Heap} {v : AV} {H' : Heap} (h : ci.ev ls fr H = some (v, H')) (H2 : Heap) : ∃ H2', ci.ev ls fr H2 = some (v, H2') := by
  have key : ∀ (G G2 : Heap), ci.ev ls fr G2 = (ci.ev ls fr G).map fun r => (r.1, G2) := by
    intro G G2
    cases ci with
    | mov x => simp only [CI.ev]; cases x.ev ls fr <;> rfl
    | pick c a b =>
      simp only [CI.ev]
      cases c.ev ls fr with
      | none => rfl
      | some c => cases c with
        | bool c => cases c with
          | true => cases h : a.ev ls fr <;> simp [h]
          | false => cases h : b.ev ls fr <;> simp [h]
        | _ => rfl
    | build z ps => simp only [CI.ev]; cases ps.fill ls fr z <;> rfl
    | nilCheck x =>
      simp only [CI.ev]
      cases x.ev ls fr with
      | none => rfl
      | some v => cases v <;> first | rfl | (rename_i f _ _; cases f <;> rfl)
    | arith op c x y =>
      simp only [CI.ev]
      cases x.ev ls fr with
      | none => rfl
      | some v => cases v with
        | int j a => cases h2 : y.ev ls fr with
          | none => rfl
          | some u => cases u with
            | int k b =>
              simp only [asInt, Option.bind_eq_bind, Option.bind_some]
              split
              · cases arithI op c a b <;> rfl
              · rfl
            | _ => rfl
        | _ => rfl
    | shift op c x y =>
      simp only [CI.ev]
      cases x.ev ls fr with
      | none => rfl
      | some v => cases v with
        | int j a => cases h2 : y.ev ls fr with
          | none => rfl
          | some u => cases u with
            | int k b =>
              simp only [asInt, Option.bind_eq_bind, Option.bind_some]
              split
              · cases shiftI op c a b <;> rfl
              · rfl
            | _ => rfl
        | _ => rfl
    | cmp op x y =>
      simp only [CI.ev]
      cases x.ev ls fr with
      | none => rfl
      | some v => cases h2 : y.ev ls fr with
        | none => rfl
        | some u =>
          simp only [Option.bind_eq_bind, Option.bind_some]
          cases cmpV op v u <;> rfl
    | cat x y =>
      simp only [CI.ev]
      cases x.ev ls fr with
      | none => rfl
      | some v => cases h2 : y.ev ls fr with
        | none => rfl
        | some u =>
          simp only [Option.bind_eq_bind, Option.bind_some]
          split
          · split <;> rfl
          · rfl
    | scmp op x y =>
      simp only [CI.ev]
      cases x.ev ls fr with
      | none => rfl
      | some v => cases h2 : y.ev ls fr with
        | none => rfl
        | some u =>
          simp only [Option.bind_eq_bind, Option.bind_some]
          split
          · rename_i l n k m; cases cmpS op l n k m <;> rfl
          · rfl
    | neg x =>
      simp only [CI.ev]
      cases x.ev ls fr with
      | none => rfl
      | some v => cases v with
        | int j a => simp only [asInt, Option.bind_eq_bind, Option.bind_some]; cases arithI .sub j 0 a <;> rfl
        | _ => rfl
    | compl x =>
      simp only [CI.ev]
      cases x.ev ls fr with
      | none => rfl
      | some v => cases v with
        | int j a => simp only [asInt, Option.bind_eq_bind, Option.bind_some]; generalize arithI .xor j _ a = o; cases o <;> rfl
        | _ => rfl
    | not x =>
      simp only [CI.ev]
      cases x.ev ls fr with
      | none => rfl
      | some v => cases v <;> rfl
    | convInt c x =>
      simp only [CI.ev]
      cases x.ev ls fr with
      | none => rfl
      | some v => cases v <;> rfl
    | same x =>
      simp only [CI.ev]
      cases x.ev ls fr with
      | none => rfl
      | some v => cases v <;> rfl
    | mkIface t x => simp only [CI.ev]; cases x.ev ls fr <;> rfl
    | mkFunc fn a b => simp only [CI.ev]; cases a.ev ls fr <;> cases b.ev ls fr <;> rfl
    | sliceStr x lo hi =>
      simp only [CI.ev]
      cases x.ev ls fr with
      | none => rfl
      | some v => cases v with
        | str l n =>
          simp only [Option.bind_eq_bind, Option.bind_some]
          cases optN ls fr lo with
          | none => rfl
          | some lo => cases optN ls fr hi with
            | none => rfl
            | some hi =>
              simp only [Option.bind_some]
              cases sliceBounds l l lo hi none <;> rfl
        | _ => rfl
    | sliceArr size n x lo hi mx =>
      simp only [CI.ev]
      cases optN ls fr lo with
      | none => rfl
      | some lo => cases optN ls fr hi with
        | none => rfl
        | some hi => cases optN ls fr mx with
          | none => rfl
          | some mx =>
            simp only [Option.bind_eq_bind, Option.bind_some]
            cases x.ev ls fr with
            | none => rfl
            | some v => cases v with
              | ptr p off => simp only [Option.bind_some]; cases sliceBounds n n lo hi mx <;> rfl
              | _ => rfl
    | fieldAddr off x =>
      simp only [CI.ev]
      cases x.ev ls fr with
      | none => rfl
      | some v => cases v <;> rfl
    | field1 off x =>
      simp only [CI.ev]
      cases x.ev ls fr with
      | none => rfl
      | some v => cases v with
        | agg cs => simp only [Option.bind_eq_bind, Option.bind_some]; cases cs.nth off <;> rfl
        | _ => rfl
    | fieldN off n x =>
      simp only [CI.ev]
      cases x.ev ls fr with
      | none => rfl
      | some v => cases v with
        | agg cs => simp only [Option.bind_eq_bind, Option.bind_some]; split <;> rfl
        | _ => rfl
    | idxSl size x i =>
      simp only [CI.ev]
      cases i.ev ls fr with
      | none => rfl
      | some i =>
        simp only [Option.bind_eq_bind, Option.bind_some]
        cases asNat i with
        | none => rfl
        | some i =>
          cases x.ev ls fr with
          | none => rfl
          | some v => simp only [Option.bind_some]; split <;> first | rfl | (split <;> rfl)
    | idxArr size n x i =>
      simp only [CI.ev]
      cases i.ev ls fr with
      | none => rfl
      | some i =>
        simp only [Option.bind_eq_bind, Option.bind_some]
        cases asNat i with
        | none => rfl
        | some i =>
          cases x.ev ls fr with
          | none => rfl
          | some v => simp only [Option.bind_some]; split <;> first | rfl | (split <;> rfl)
    | idxAgg1 n x i =>
      simp only [CI.ev]
      cases i.ev ls fr with
      | none => rfl
      | some i =>
        simp only [Option.bind_eq_bind, Option.bind_some]
        cases asNat i with
        | none => rfl
        | some i =>
          cases x.ev ls fr with
          | none => rfl
          | some v => cases v with
            | agg cs => simp only [Option.bind_some]; split <;> first | rfl | (cases cs.nth i <;> rfl)
            | _ => rfl
    | idxAggN size n x i =>
      simp only [CI.ev]
      cases i.ev ls fr with
      | none => rfl
      | some i =>
        simp only [Option.bind_eq_bind, Option.bind_some]
        cases asNat i with
        | none => rfl
        | some i =>
          cases x.ev ls fr with
          | none => rfl
          | some v => simp only [Option.bind_some]; split <;> first | rfl | (split <;> rfl)
    | idxStr x i =>
      simp only [CI.ev]
      cases i.ev ls fr with
      | none => rfl
      | some i =>
        simp only [Option.bind_eq_bind, Option.bind_some]
        cases asNat i with
        | none => rfl
        | some i =>
          cases x.ev ls fr with
          | none => rfl
          | some v => simp only [Option.bind_some]; split <;> first | rfl | (split <;> rfl)
    | assert t z ok x =>
      simp only [CI.ev]
      cases x.ev ls fr with
      | none => rfl
      | some v => simp only [Option.bind_eq_bind, Option.bind_some]; split <;> first | rfl | (split <;> first | rfl | (split <;> rfl))
    | extract j x =>
      simp only [CI.ev]
      cases x.ev ls fr with
      | none => rfl
      | some v => cases v with
        | tuple cs => simp only [Option.bind_eq_bind, Option.bind_some]; cases cs.nth j <;> rfl
        | _ => rfl
    | lenStr x =>
      simp only [CI.ev]
      cases x.ev ls fr with
      | none => rfl
      | some v => cases v <;> rfl
    | lenSl x =>
      simp only [CI.ev]
      cases x.ev ls fr with
      | none => rfl
      | some v => cases v <;> rfl
    | capSl x =>
      simp only [CI.ev]
      cases x.ev ls fr with
      | none => rfl
      | some v => cases v <;> rfl
    | lit v => rfl
    | min x y =>
      simp only [CI.ev]
      cases x.ev ls fr with
      | none => rfl
      | some v => cases v with
        | int j a => cases h2 : y.ev ls fr with
          | none => rfl
          | some u => cases u <;> rfl
        | _ => rfl
    | max x y =>
      simp only [CI.ev]
      cases x.ev ls fr with
      | none => rfl
      | some v => cases v with
        | int j a => cases h2 : y.ev ls fr with
          | none => rfl
          | some u => cases u <;> rfl
        | _ => rfl
    | _ => cases hf
  rw [key H H2, h]
  exact ⟨H2, rfl⟩

theorem back_free {ci : CI} (hf : ci.free = true) {ls : AV} {fr : Tr AV} {v : AV} {H H' : Heap} (he : ci.ev ls fr H = some (v, H')) : ∀ {n : Nat} {Hs : List Heap}, n ≤ Hs.length → backs ci ls fr v n Hs = true := by
  intro n
  induction n with
  | zero => intro Hs _; rfl
  | succ n ih =>
    intro Hs hl
    cases Hs with
    | nil => simp at hl
    | cons G Gs =>
      obtain ⟨G', h⟩ := CI.free_ev hf he G
      simp only [backs, h, AV.beq_refl, ih (by simpa using hl), Bool.and_self]

end Go.Dx
