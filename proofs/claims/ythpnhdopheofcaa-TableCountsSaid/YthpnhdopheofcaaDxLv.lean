import Derived.Test.YthpnhdopheofcaaDxLu
set_option linter.unusedSimpArgs false
set_option linter.unusedVariables false
namespace Go.Dx
section
variable {ls : AV} {fr : Tr AV} {M : Mem}
theorem opW_imp {x : Opd} {k k' : AV → Prop} (h : ∀ v, k v → k' v) : opW ls fr x k → opW ls fr x k' := by
 intro hk
 unfold opW at hk ⊢
 cases x with
 | loc j => revert hk; simp only; cases ls.nth j <;> first | exact id | exact h _
 | var p => revert hk; simp only; cases fr.get p <;> first | exact id | exact h _
 | lit v => exact h _ hk
theorem opsW_imp : ∀ {xs : Opds} {k k' : AV → Prop}, (∀ v, k v → k' v) → opsW ls fr xs k → opsW ls fr xs k' := by
 intro xs
 induction xs with
 | nil => intro k k' h; exact h _
 | cons x r ih => intro k k' h; exact opW_imp fun v => ih fun vs => h _
theorem ptrW_imp {v : AV} {k k' : Pos → Nat → Prop} (h : ∀ p o, k p o → k' p o) : ptrW v k → ptrW v k' := by unfold ptrW; cases v <;> first | exact id | exact h _ _
theorem intW_imp {v : AV} {k k' : Nat → Int → Prop} (h : ∀ p o, k p o → k' p o) : intW v k → intW v k' := by unfold intW; cases v <;> first | exact id | exact h _ _
theorem natW_imp {v : AV} {k k' : Nat → Prop} (h : ∀ p, k p → k' p) : natW v k → natW v k' := by unfold natW; cases v <;> first | exact id | exact And.imp id (h _)
theorem boolW_imp {v : AV} {k k' : Bool → Prop} (h : ∀ p, k p → k' p) : boolW v k → boolW v k' := by unfold boolW; cases v <;> first | exact id | exact h _
theorem strW_imp {v : AV} {k k' : Nat → Nat → Prop} (h : ∀ p o, k p o → k' p o) : strW v k → strW v k' := by unfold strW; cases v <;> first | exact id | exact h _ _
theorem aggW_imp {v : AV} {k k' : AV → Prop} (h : ∀ p, k p → k' p) : aggW v k → aggW v k' := by unfold aggW; cases v <;> first | exact id | exact h _
theorem tupW_imp {v : AV} {k k' : AV → Prop} (h : ∀ p, k p → k' p) : tupW v k → tupW v k' := by unfold tupW; cases v <;> first | exact id | exact h _
theorem someW_imp {α : Type} {v : Option α} {k k' : α → Prop} (h : ∀ p, k p → k' p) : someW v k → someW v k' := by unfold someW; cases v <;> first | exact id | exact h _
theorem listW_imp {v : AV} {k k' : List AV → Prop} (h : ∀ p, k p → k' p) : listW v k → listW v k' := And.imp id (h _)
theorem optW_imp {x : Option Opd} {k k' : Option Nat → Prop} (h : ∀ p, k p → k' p) : optW ls fr x k → optW ls fr x k' := by
 unfold optW
 cases x with
 | none => exact h _
 | some x => exact opW_imp fun v => by cases v <;> first | exact id | exact And.imp id (h _)
theorem fillW_imp : ∀ {ps : Parts} {t : AV} {k k' : AV → Prop}, (∀ v, k v → k' v) → fillW ls fr t ps k → fillW ls fr t ps k' := by
 intro ps
 induction ps with
 | nil => intro t k k' h; exact h _
 | cons off size x r ih => intro t k k' h; exact opW_imp fun v => And.imp id (ih h)
set_option maxHeartbeats 1000000 in
theorem CI.wp_imp {ci : CI} {k k' : AV → Mem → Prop} (hk : ∀ v M', k v M' → k' v M') : ci.wp ls fr M k → ci.wp ls fr M k' := by
 cases ci with
 | defer f x => exact id
 | bld t e => exact id
 | pick c a b => exact opW_imp fun _ => boolW_imp fun _ => And.imp (fun h e => opW_imp (fun _ => hk _ _) (h e)) (fun h e => opW_imp (fun _ => hk _ _) (h e))
 | assert t z ok x =>
  refine opW_imp fun v => ?_
  cases v with
  | niliface => exact And.imp id (hk _ _)
  | iface u v => exact And.imp (fun h e => hk _ _ (h e)) (fun h e => And.imp id (hk _ _) (h e))
  | _ => exact id
 | lenMap x =>
  refine opW_imp fun v => ?_
  cases v with
  | nilmap => exact hk _ _
  | map p =>
   simp only
   cases M.get p with
   | none => exact id
   | some b => cases b <;> first | exact id | exact hk _ _
  | _ => exact id
 | capSl x =>
  refine opW_imp fun v => ?_
  cases v <;> first | exact id | exact hk _ _
 | mov x => exact opW_imp fun _ => hk _ _
 | alloc z n => exact And.imp id (listW_imp fun _ => someW_imp fun _ => hk _ _)
 | box x => exact opW_imp fun _ => listW_imp fun _ => someW_imp fun _ => hk _ _
 | build z ps => exact fillW_imp fun _ => hk _ _
 | buildSlice z n len ps => exact fillW_imp fun _ => And.imp id (listW_imp fun _ => someW_imp fun _ => hk _ _)
 | load1 a => exact opW_imp fun _ => ptrW_imp fun _ _ => someW_imp fun _ => hk _ _
 | loadN n a => exact opW_imp fun _ => ptrW_imp fun _ _ => someW_imp fun _ => hk _ _
 | store n a x => exact opW_imp fun _ => ptrW_imp fun _ _ => opW_imp fun _ => listW_imp fun _ => And.imp id (someW_imp fun _ => hk _ _)
 | nilCheck x => exact opW_imp fun _ => And.imp id (hk _ _)
 | arith op c x y => exact opW_imp fun _ => intW_imp fun _ _ => opW_imp fun _ => intW_imp fun _ _ => And.imp id (someW_imp fun _ => hk _ _)
 | shift op c x y => exact opW_imp fun _ => intW_imp fun _ _ => opW_imp fun _ => intW_imp fun _ _ => And.imp id (someW_imp fun _ => hk _ _)
 | cmp op x y => exact opW_imp fun _ => intW_imp fun _ _ => opW_imp fun _ => intW_imp fun _ _ => And.imp id (someW_imp fun _ => hk _ _)
 | cat x y => exact opW_imp fun _ => opW_imp fun _ => strW_imp fun _ _ => strW_imp fun _ _ => And.imp id (hk _ _)
 | scmp op x y => exact opW_imp fun _ => opW_imp fun _ => strW_imp fun _ _ => strW_imp fun _ _ => someW_imp fun _ => hk _ _
 | eq e ne x y => exact opW_imp fun _ => opW_imp fun _ => someW_imp fun _ => hk _ _
 | neg x => exact opW_imp fun _ => intW_imp fun _ _ => someW_imp fun _ => hk _ _
 | compl x => exact opW_imp fun _ => intW_imp fun _ _ => someW_imp fun _ => hk _ _
 | not x => exact opW_imp fun _ => boolW_imp fun _ => hk _ _
 | convInt c x => exact opW_imp fun _ => intW_imp fun _ _ => hk _ _
 | same x => exact opW_imp fun _ => strW_imp fun _ _ => hk _ _
 | toBytes x => exact opW_imp fun _ => strW_imp fun _ _ => someW_imp fun _ => hk _ _
 | ofBytes x => exact opW_imp fun _ => someW_imp fun _ => someW_imp fun _ => someW_imp fun _ => hk _ _
 | mkIface t x => exact opW_imp fun _ => hk _ _
 | mkFunc fn a b => exact opsW_imp fun _ => opsW_imp fun _ => hk _ _
 | mkMap => exact hk _ _
 | makeSlice z size len cap => exact opW_imp fun _ => natW_imp fun _ => opW_imp fun _ => natW_imp fun _ => And.imp id (listW_imp fun _ => someW_imp fun _ => hk _ _)
 | sliceStr x lo hi => exact opW_imp fun _ => strW_imp fun _ _ => optW_imp fun _ => optW_imp fun _ => someW_imp fun _ => hk _ _
 | sliceSl size x lo hi mx => simp only [CI.wp]; exact optW_imp fun _ => optW_imp fun _ => optW_imp fun _ => opW_imp fun _ => someW_imp fun _ => hk _ _
 | sliceArr size n x lo hi mx => simp only [CI.wp]; exact optW_imp fun _ => optW_imp fun _ => optW_imp fun _ => opW_imp fun _ => ptrW_imp fun _ _ => someW_imp fun _ => hk _ _
 | fieldAddr off x => exact opW_imp fun _ => ptrW_imp fun _ _ => hk _ _
 | field1 off x => exact opW_imp fun _ => aggW_imp fun _ => someW_imp fun _ => hk _ _
 | fieldN off n x => exact opW_imp fun _ => aggW_imp fun _ => And.imp id (hk _ _)
 | idxSl size x i => exact opW_imp fun _ => natW_imp fun _ => opW_imp fun _ => someW_imp fun _ => And.imp id (hk _ _)
 | idxArr size n x i => exact opW_imp fun _ => natW_imp fun _ => opW_imp fun _ => ptrW_imp fun _ _ => And.imp id (hk _ _)
 | idxAgg1 n x i => exact opW_imp fun _ => natW_imp fun _ => opW_imp fun _ => aggW_imp fun _ => And.imp id (someW_imp fun _ => hk _ _)
 | idxAggN size n x i => exact opW_imp fun _ => natW_imp fun _ => opW_imp fun _ => aggW_imp fun _ => And.imp id (hk _ _)
 | idxStr x i => exact opW_imp fun _ => natW_imp fun _ => opW_imp fun _ => strW_imp fun _ _ => And.imp id (hk _ _)
 | lookup e z ok m x => exact opW_imp fun _ => opW_imp fun _ => And.imp id (someW_imp fun _ => hk _ _)
 | update e m x v => exact opW_imp fun _ => opW_imp fun _ => opW_imp fun _ => And.imp id (someW_imp fun _ => hk _ _)
 | extract j x => exact opW_imp fun _ => tupW_imp fun _ => someW_imp fun _ => hk _ _
 | append z size x y => exact opW_imp fun _ => opW_imp fun _ => someW_imp fun _ => someW_imp fun _ => someW_imp fun _ => hk _ _
 | appendZ z size x y => exact opW_imp fun _ => natW_imp fun _ => And.imp id (opW_imp fun _ => listW_imp fun _ => someW_imp fun _ => hk _ _)
 | clear z size x => exact opW_imp fun _ => someW_imp fun _ => And.imp id (listW_imp fun _ => someW_imp fun _ => hk _ _)
 | lenStr x => exact opW_imp fun _ => strW_imp fun _ _ => hk _ _
 | lenSl x => exact opW_imp fun _ => someW_imp fun _ => hk _ _
 | lit v => exact hk _ _
 | copy size x y => exact opW_imp fun _ => opW_imp fun _ => someW_imp fun _ => someW_imp fun _ => someW_imp fun _ => someW_imp fun _ => hk _ _
 | delete e m x => exact opW_imp fun _ => opW_imp fun _ => And.imp id (someW_imp fun _ => hk _ _)
 | min x y => exact opW_imp fun _ => intW_imp fun _ _ => opW_imp fun _ => intW_imp fun _ _ => hk _ _
 | max x y => exact opW_imp fun _ => intW_imp fun _ _ => opW_imp fun _ => intW_imp fun _ _ => hk _ _
 | lookupP z o m x => exact id
 | updateP m x v => exact id
 | idxByte x c => exact id
 | callF f as => exact id
 | callV f as => exact id
 | panic x => exact id
variable {tbl : Nat → Option CFunc}
theorem retK_imp {k k' kp kp' : AV → Mem → Prop} (h : ∀ v M, k v M → k' v M) (hp : ∀ v M, kp v M → kp' v M) : ∀ r M, retK k kp r M → retK k' kp' r M := by
 intro r M
 cases r with
 | ret v => exact h _ _
 | pan v => exact hp _ _
theorem instW_imp {ci : CI} {k k' kp kp' : AV → Mem → Prop} (h : ∀ v M', k v M' → k' v M') (hp : ∀ v M', kp v M' → kp' v M') : instW tbl ci ls fr M k kp → instW tbl ci ls fr M k' kp' := by
 cases ci with
 | callF f args => exact opsW_imp fun _ hc => hc.mono (retK_imp h hp)
 | callV g args =>
  refine opW_imp fun gv => ?_
  unfold calleeW
  cases gv with
  | func fn a b => cases fn <;> first | exact id | exact opsW_imp fun _ hc => hc.mono (retK_imp h hp)
  | _ => exact id
 | panic x =>
  refine opW_imp fun v => ?_
  cases v <;> first | exact id | exact hp _ _
 | _ => rw [instW_still _ _ _ _ _ _ rfl, instW_still _ _ _ _ _ _ rfl]; exact CI.wp_imp h
theorem guardW_imp {g : Option (Nat × Bool)} {a b a' b' : Prop} (h : a → a') (k : b → b') : guardW ls g a b → guardW ls g a' b' := by
 unfold guardW
 cases g with
 | none => exact k
 | some p =>
  obtain ⟨j, c⟩ := p
  simp only
  cases ls.nth j with
  | none => exact id
  | some v => cases v with
   | bool d => exact And.imp (fun f e => k (f e)) (fun f e => h (f e))
   | tuple w => cases w <;> first | exact h | exact id
   | _ => exact id
theorem CIs.wp_imp : ∀ {cs : CIs} {ls : AV} {fr : Tr AV} {M : Mem} {Q Q' : Ex → Tr AV → Mem → Prop}, (∀ e fr M, Q e fr M → Q' e fr M) → CIs.wp tbl cs ls fr M Q → CIs.wp tbl cs ls fr M Q' := by
 intro cs
 induction cs with
 | nil => intro ls fr M Q Q' h; exact h _ _ _
 | cons g ci dst r ih => intro ls fr M Q Q' h; exact guardW_imp (ih h) (instW_imp (fun _ _ => ih h) (fun _ _ => h _ _ _))
theorem floatW_imp {ci : CI} {R : List Pos} {Ms : List Mem} {k k' : AV → MB → List Pos → List Mem → Mem → Prop} (h : ∀ v b R Ms M, k v b R Ms M → k' v b R Ms M) : floatW ci R Ms ls fr M k → floatW ci R Ms ls fr M k' := by
 unfold floatW
 cases R with
 | nil => exact id
 | cons p R => exact And.imp id (And.imp id (CI.wp_imp fun _ _ => someW_imp fun _ => h _ _ _ _ _))
theorem DIs.wp_imp : ∀ {ds : DIs} {R : List Pos} {Ms : List Mem} {ls : AV} {fr : Tr AV} {M : Mem} {Q Q' : Ex → Tr AV → Mem → Prop}, (∀ e fr M, Q e fr M → Q' e fr M) → DIs.wp tbl ds R Ms ls fr M Q → DIs.wp tbl ds R Ms ls fr M Q' := by
 intro ds
 induction ds with
 | nil => intro R Ms ls fr M Q Q' h; exact h _ _ _
 | cons g ci dst k r ih =>
  intro R Ms ls fr M Q Q' h
  cases k with
  | heavy => exact guardW_imp (ih h) (instW_imp (fun _ _ => ih h) (fun _ _ => id))
  | light bk => exact guardW_imp (ih h) (CI.wp_imp fun _ _ => And.imp id (ih h))
  | float => exact guardW_imp (ih h) (floatW_imp fun _ _ _ _ _ => ih h)
theorem CCode.wp_imp : ∀ {c : CCode} {fr : Tr AV} {M : Mem} {Q Q' : Ex → Tr AV → Mem → Prop}, (∀ e fr M, Q e fr M → Q' e fr M) → c.wp tbl fr M Q → c.wp tbl fr M Q' := by
 intro c
 induction c with
 | region cs => intro fr M Q Q' h; exact CIs.wp_imp h
 | draw ds nf => intro fr M Q Q' h; exact DIs.wp_imp h
 | seq a b iha ihb =>
  intro fr M Q Q' h
  refine iha fun e fr M => ?_
  cases e <;> first | exact ihb h | exact h _ _ _
 | cond x a b iha ihb => intro fr M Q Q' h; exact opW_imp fun _ => boolW_imp fun _ => And.imp (fun f e => iha h (f e)) (fun f e => ihb h (f e))
 | block id c ih => intro fr M Q Q' h; exact ih fun _ _ _ => h _ _ _
 | loop c ih =>
  intro fr M Q Q' h ⟨I, h0, hb⟩
  refine ⟨I, h0, fun n fr M hI => ih (fun e fr M => ?_) (hb n fr M hI)⟩
  cases e <;> first | exact _root_.id | exact h _ _ _
 | scope rest c ih _ =>
  intro fr M Q Q' h
  refine ih fun e fr M => ?_
  cases e <;> first | exact _root_.id | exact h _ _ _
 | rangeFunc => intro fr M Q Q' h; exact False.elim
 | _ => intro fr M Q Q' h; exact h _ _ _
end
end Go.Dx
