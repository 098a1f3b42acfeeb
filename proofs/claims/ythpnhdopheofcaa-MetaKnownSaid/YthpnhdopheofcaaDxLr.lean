/-
  For open laws: calls, regions, code: what must hold ahead so that behind it something holds; and that it does.
-/
import Derived.Test.YthpnhdopheofcaaDxLi
set_option linter.unusedSimpArgs false
set_option linter.unusedVariables false
namespace Go.Dx

/-! More fuel answers the same. -/
def Le {α β γ δ : Type} (f g : α → β → γ → Option δ) : Prop := ∀ a b c r, f a b c = some r → g a b c = some r

section
variable {call call' : Nat → AV → Heap → Option (CR × Heap)} {yld yld' : Pos → AV → Heap → Option (CR × Heap)}
theorem CI.run_le (h : Le call call') (hy : Le yld yld') {ls : AV} {fr : Tr AV} {H : Heap} {ci : CI} {r : CR × Heap} (hr : CI.run call yld ls fr H ci = some r) : CI.run call' yld' ls fr H ci = some r := by
  cases ci with
  | callF f args =>
    simp only [CI.run] at hr ⊢
    cases hc : callee ls fr (.callF f args) with
    | none => rw [hc] at hr; cases hr
    | some q => rw [hc] at hr; exact h _ _ _ _ hr
  | callV f args =>
    simp only [CI.run] at hr ⊢
    split at hr
    · split at hr
      · exact hy _ _ _ _ hr
      · cases hr
    · split at hr
      · exact h _ _ _ _ hr
      · cases hr
  | _ => exact hr
theorem CIs.run_le (h : Le call call') (hy : Le yld yld') : ∀ {cs : CIs} {ls : AV} {fr : Tr AV} {H : Heap} {r : RO}, CIs.run call yld cs ls fr H = some r → CIs.run call' yld' cs ls fr H = some r := by
  intro cs
  induction cs with
  | nil => intro ls fr H r hr; exact hr
  | cons g ci dst rest ih =>
    intro ls fr H r hr
    simp only [CIs.run] at hr ⊢
    split at hr
    · cases hr
    · exact ih hr
    · split at hr
      · rename_i v H' he; rw [CI.run_le h hy he]; exact ih hr
      · rename_i v H' he; rw [CI.run_le h hy he]; exact hr
      · cases hr
theorem DIs.run_le (h : Le call call') : ∀ {ds : DIs} {R : List Pos} {Hs : List Heap} {ls : AV} {fr : Tr AV} {H : Heap} {r : Tr AV × Heap}, DIs.run call ds R Hs ls fr H = some r → DIs.run call' ds R Hs ls fr H = some r := by
  intro ds
  induction ds with
  | nil => intro R Hs ls fr H r hr; exact hr
  | cons g ci dst k rest ih =>
    intro R Hs ls fr H r hr
    simp only [DIs.run] at hr ⊢
    split at hr
    · cases hr
    · exact ih hr
    · cases k with
      | heavy =>
        simp only at hr ⊢
        split at hr
        · rename_i v H' he; rw [CI.run_le h (fun _ _ _ _ h => h) he]; exact ih hr
        · cases hr
      | light bk =>
        simp only at hr ⊢
        split at hr
        · split at hr
          · rw [if_pos (by assumption)]; exact ih hr
          · cases hr
        · cases hr
      | float =>
        simp only at hr ⊢
        split at hr
        · cases hr
        · split at hr
          · split at hr
            · exact ih hr
            · cases hr
          · cases hr
end

section
variable {tbl : Nat → Option CFunc} {rec rec' : CCode → Tr AV → Heap → Option (Ex × Tr AV × Heap)}
theorem doCall_le (h : Le rec rec') : Le (doCall tbl rec) (doCall tbl rec') := by
  intro f as H r hr
  unfold doCall at hr ⊢
  cases h1 : tbl f with
  | none => rw [h1] at hr; cases hr
  | some cf =>
    rw [h1] at hr
    simp only at hr ⊢
    cases hk : cf.konst with
    | some k => cases k with
      | val v => rw [hk] at hr; exact hr
      | nat g => rw [hk] at hr; exact hr
    | none =>
      rw [hk] at hr
      simp only at hr ⊢
      cases h2 : enterFr as 0 .leaf with
      | none => rw [h2] at hr; cases hr
      | some fr =>
        rw [h2] at hr
        simp only at hr ⊢
        cases h3 : rec cf.body fr H with
        | none => rw [h3] at hr; simp [finish] at hr
        | some x => rw [h3] at hr; rw [h _ _ _ _ h3]; exact hr
theorem doYield_le (h : Le rec rec') : Le (doYield rec) (doYield rec') := by
  intro p as H r hr
  unfold doYield at hr ⊢
  split at hr
  · rename_i h0
    try simp only [h0]
    split at hr
    · cases hr
    · rename_i h1
      try simp only [h1]
      split at hr
      · rename_i h2
        simp only [h _ _ _ _ h2]
        split at hr
        · rename_i h3
          try simp only [h3]
          split at hr
          · rename_i h4
            simp only [h _ _ _ _ h4]
            exact hr
          · cases hr
        · cases hr
      · cases hr
  · cases hr
theorem stepC_le (h : Le rec rec') : Le (stepC tbl rec) (stepC tbl rec') := by
  intro c fr H r hr
  cases c with
  | region cs =>
    simp only [stepC] at hr ⊢
    split at hr
    · rename_i he; rw [CIs.run_le (doCall_le h) (doYield_le h) he]; exact hr
    · rename_i he; rw [CIs.run_le (doCall_le h) (doYield_le h) he]; exact hr
    · cases hr
  | draw ds nf =>
    simp only [stepC] at hr ⊢
    split at hr
    · rename_i he; rw [DIs.run_le (doCall_le h) he]; exact hr
    · cases hr
  | seq a b =>
    simp only [stepC] at hr ⊢
    cases h1 : rec a fr H with
    | none => rw [h1] at hr; cases hr
    | some x =>
      rw [h1] at hr
      rw [h _ _ _ _ h1]
      obtain ⟨e, fr', H'⟩ := x
      cases e <;> first | exact hr | exact h _ _ _ _ hr
  | cond x a b =>
    simp only [stepC] at hr ⊢
    split at hr
    · exact h _ _ _ _ hr
    · exact h _ _ _ _ hr
    · cases hr
  | block id c =>
    simp only [stepC] at hr ⊢
    cases h1 : rec c fr H with
    | none => rw [h1] at hr; cases hr
    | some x => rw [h1] at hr; rw [h _ _ _ _ h1]; exact hr
  | loop c =>
    simp only [stepC] at hr ⊢
    cases h1 : rec c fr H with
    | none => rw [h1] at hr; cases hr
    | some x =>
      rw [h1] at hr
      rw [h _ _ _ _ h1]
      obtain ⟨e, fr', H'⟩ := x
      cases e <;> first | exact hr | exact h _ _ _ _ hr
  | scope rest c =>
    simp only [stepC] at hr ⊢
    cases h1 : rec rest fr H with
    | none => rw [h1] at hr; cases hr
    | some x =>
      rw [h1] at hr
      rw [h _ _ _ _ h1]
      obtain ⟨e, fr', H'⟩ := x
      cases e with
      | goto l =>
        simp only at hr ⊢
        cases h2 : findLabelC c l with
        | none => rw [h2] at hr; exact hr
        | some r' => rw [h2] at hr; exact h _ _ _ _ hr
      | _ => exact hr
  | rangeFunc g ps asg body sa sb n far =>
    simp only [stepC] at hr ⊢
    split at hr
    · rename_i hg
      try simp only [hg]
      split at hr
      · rename_i h1; rw [doCall_le h _ _ _ _ h1]; exact hr
      · rename_i h1; rw [doCall_le h _ _ _ _ h1]; exact hr
      · cases hr
    · cases hr
  | _ => exact hr

theorem run_le_succ (n : Nat) : Le (run tbl n) (run tbl (n + 1)) := by
  induction n with
  | zero => intro c fr H r hr; cases hr
  | succ n ih => intro c fr H r hr; exact stepC_le ih c fr H r hr
theorem run_le {m n : Nat} (h : m ≤ n) : Le (run tbl m) (run tbl n) := by
  induction n with
  | zero => have : m = 0 := by omega
            subst this; intro c fr H r hr; exact hr
  | succ n ih =>
    rcases Nat.lt_or_ge m (n + 1) with h1 | h1
    · intro c fr H r hr; exact run_le_succ n c fr H r (ih (by omega) c fr H r hr)
    · have : m = n + 1 := by omega
      subst this; intro c fr H r hr; exact hr
theorem callN_le {m n : Nat} (h : m ≤ n) : Le (callN tbl m) (callN tbl n) := doCall_le (run_le h)
abbrev yldN (tbl : Nat → Option CFunc) (n : Nat) := doYield (run tbl n)
theorem yldN_le {m n : Nat} (h : m ≤ n) : Le (yldN tbl m) (yldN tbl n) := doYield_le (run_le h)
end

/-! Calls and code. -/
def CallW (tbl : Nat → Option CFunc) (f : Nat) (as : AV) (M : Mem) (Q : CR → Mem → Prop) : Prop :=
  ∀ H, Sees H M → ∃ n r H' M', callN tbl n f as H = some (r, H') ∧ Sees H' M' ∧ Q r M'
def ExecW (tbl : Nat → Option CFunc) (c : CCode) (fr : Tr AV) (M : Mem) (Q : Ex → Tr AV → Mem → Prop) : Prop :=
  ∀ H, Sees H M → ∃ n e fr' H' M', run tbl n c fr H = some (e, fr', H') ∧ Sees H' M' ∧ Q e fr' M'

theorem CallW.mono {tbl : Nat → Option CFunc} {f : Nat} {as : AV} {M : Mem} {Q Q' : CR → Mem → Prop} (h : CallW tbl f as M Q) (hq : ∀ r M', Q r M' → Q' r M') : CallW tbl f as M Q' :=
  fun H hs => let ⟨n, r, H', M', a, b, c⟩ := h H hs; ⟨n, r, H', M', a, b, hq _ _ c⟩
theorem ExecW.mono {tbl : Nat → Option CFunc} {c : CCode} {fr : Tr AV} {M : Mem} {Q Q' : Ex → Tr AV → Mem → Prop} (h : ExecW tbl c fr M Q) (hq : ∀ e fr M', Q e fr M' → Q' e fr M') : ExecW tbl c fr M Q' :=
  fun H hs => let ⟨n, e, fr', H', M', a, b, c⟩ := h H hs; ⟨n, e, fr', H', M', a, b, hq _ _ _ c⟩

section
variable (tbl : Nat → Option CFunc)

/-- What comes of a call's end. -/
def retK (k : AV → Mem → Prop) (kp : AV → Mem → Prop) : CR → Mem → Prop
  | .ret v, M => k v M
  | .pan v, M => kp v M

def calleeW (gv : AV) (k : Nat → AV → AV → Prop) : Prop := match gv with | .func (.func f) a b => k f a b | _ => False

/-- One instruction. -/
def instW (ci : CI) (ls : AV) (fr : Tr AV) (M : Mem) (k kp : AV → Mem → Prop) : Prop :=
  match ci with
  | .callF f args => opsW ls fr args fun as => CallW tbl f as M (retK k kp)
  | .callV g args => opW ls fr g fun gv => calleeW gv fun f a b => opsW ls fr args fun as => CallW tbl f (a.app (as.app b)) M (retK k kp)
  | .panic x => opW ls fr x fun v => match v with | .iface t u => kp (.iface t u) M | _ => False
  | ci => ci.wp ls fr M k

def guardW (ls : AV) (g : Option (Nat × Bool)) (skip go : Prop) : Prop :=
  match g with
  | none => go
  | some (j, b) => match ls.nth j with
    | some (.bool c) => (c = b → go) ∧ (c ≠ b → skip)
    | some (.tuple .nil) => skip
    | _ => False

def CIs.wp : CIs → AV → Tr AV → Mem → (Ex → Tr AV → Mem → Prop) → Prop
  | .nil, _, fr, M, Q => Q .normal fr M
  | .cons g ci dst r, ls, fr, M, Q =>
    guardW ls g (CIs.wp r (.cons undefA ls) (setDst fr dst undefA) M Q)
      (instW tbl ci ls fr M (fun v M' => CIs.wp r (.cons v ls) (setDst fr dst v) M' Q) (fun v M' => Q (.pan v) fr M'))

/-- Does an instruction not ask memory at all? -/
def CI.free : CI → Bool
  | .mov _ | .pick .. | .build .. | .nilCheck _ | .arith .. | .shift .. | .cmp .. | .cat .. | .scmp .. | .neg _ | .compl _ | .not _ | .convInt .. | .same _ | .mkIface .. | .mkFunc .. | .sliceStr .. | .sliceArr .. | .fieldAddr .. | .field1 .. | .fieldN .. | .idxSl .. | .idxArr .. | .idxAgg1 .. | .idxAggN .. | .idxStr .. | .assert .. | .extract .. | .lenStr _ | .lenSl _ | .capSl _ | .lit _ | .min .. | .max .. => true
  | _ => false

def backW (ci : CI) (ls : AV) (fr : Tr AV) (v : AV) : Nat → List Mem → Prop
  | 0, _ => True
  | n + 1, M :: Ms => ci.wp ls fr M (fun u _ => AV.beq u v = true) ∧ backW ci ls fr v n Ms
  | _ + 1, [] => False

def Mem.reserve : Nat → Mem → List Pos × Mem
  | 0, M => ([], M)
  | n + 1, M => let r := Mem.reserve n ⟨M.next.succ, M.get⟩; (M.next :: r.1, r.2)

/-- One that makes a block whose name is kept. -/
def floatW (ci : CI) (R : List Pos) (Ms : List Mem) (ls : AV) (fr : Tr AV) (M : Mem) (k : AV → MB → List Pos → List Mem → Mem → Prop) : Prop :=
  match R with
  | [] => False
  | p :: R => p.num < M.next.num ∧ (∀ M' ∈ Ms, p.num < M'.next.num) ∧ ci.wp ls fr ⟨p, fun _ => none⟩ (fun v F => someW (F.get p) fun b => k v b R (Ms.map fun M => M.put p b) (M.put p b))

def DIs.wp : DIs → List Pos → List Mem → AV → Tr AV → Mem → (Ex → Tr AV → Mem → Prop) → Prop
  | .nil, _, _, _, fr, M, Q => Q .normal fr M
  | .cons g ci dst .heavy r, R, Ms, ls, fr, M, Q =>
    guardW ls g (DIs.wp r R (M :: Ms) (.cons undefA ls) (setDst fr dst undefA) M Q)
      (instW tbl ci ls fr M (fun v M' => DIs.wp r R (M :: Ms) (.cons v ls) (setDst fr dst v) M' Q) (fun _ _ => False))
  | .cons g ci dst (.light bk) r, R, Ms, ls, fr, M, Q =>
    guardW ls g (DIs.wp r R Ms (.cons undefA ls) (setDst fr dst undefA) M Q)
      (ci.wp ls fr M (fun v _ => (if ci.free then bk ≤ Ms.length else backW ci ls fr v bk Ms) ∧ DIs.wp r R Ms (.cons v ls) (setDst fr dst v) M Q))
  | .cons g ci dst .float r, R, Ms, ls, fr, M, Q =>
    guardW ls g (DIs.wp r R Ms (.cons undefA ls) (setDst fr dst undefA) M Q)
      (floatW ci R Ms ls fr M fun v _ R Ms M => DIs.wp r R Ms (.cons v ls) (setDst fr dst v) M Q)

end
end Go.Dx
