/-
  Operations, first part: those that compute, and cells.
-/
import Derived.Test.YtpmfhinbmnaomaaGreatDoorDxOpd
import Derived.Laws.StructEq
set_option linter.unusedSimpArgs false
set_option linter.unusedVariables false
set_option linter.unusedSectionVars false
namespace Go.Dx

theorem run_underlying {P : Program} {t : TypeId} {d : TypeDesc} (h : P.underlying t = some d) (w : World) : (underlying t).run P w = .ok d w := by
  show (match P.underlying t with | some d => (pure d : Sem TypeDesc) | none => stuck "no such type").run P w = _
  rw [h]; rfl
theorem run_typeInfo {P : Program} {t : TypeId} {i : TypeInfo} (h : P.info? t = some i) (w : World) : (typeInfo t).run P w = .ok i w := by
  show (match P.info? t with | some i => (pure i : Sem TypeInfo) | none => stuck "no such type").run P w = _
  rw [h]; rfl
theorem run_sizeOf {P : Program} {t : TypeId} {n : Nat} (h : sizeP P t = some n) (w : World) : (sizeOf t).run P w = .ok n w := by
  unfold sizeP at h
  simp only [Option.map_eq_some_iff] at h
  obtain ⟨i, hi, rfl⟩ := h
  unfold sizeOf
  rw [runB (run_typeInfo hi w)]
  rfl
theorem run_isAgg {P : Program} {t : TypeId} {b : Bool} (h : isAggP P t = some b) (w : World) : (isAgg t).run P w = .ok b w := by
  unfold isAggP at h
  unfold isAgg
  split at h
  · rename_i hu; cases h; rw [runB (run_underlying hu w)]; rfl
  · rename_i hu; cases h; rw [runB (run_underlying hu w)]; rfl
  · rename_i d h1 h2 hu
    cases h
    rw [runB (run_underlying hu w)]
    cases d <;> first | rfl | exact (h1 _ rfl).elim | exact (h2 _ _ rfl).elim
  · cases h
theorem run_zero {P : Program} {t : TypeId} {z : AV} (h : zeroP P t = some z) (w : World) : ∃ v, (zeroValue t).run P w = .ok v w ∧ ∀ ρ, RX ρ z [v] := by
  unfold zeroP at h
  split at h
  · rename_i i hi
    split at h
    · rename_i v hv
      refine ⟨v, ?_, fun ρ => constA_rel ρ h⟩
      unfold zeroValue
      rw [runB (run_typeInfo hi w)]
      simp only [hv]
      rfl
    · cases h
  · cases h

/-- The cells of a value. -/
theorem RX.cells {ρ : Ren} {v : AV} {x : Value} (h : RX ρ v [x]) (hl : v.cells.isList = true) : RX ρ v.cells x.cells.toList := by
  have one : ∀ (u : AV) (y : Value), RX ρ u [y] → RX ρ (.cons u .nil) [y] := fun u y hu => ⟨y, [], rfl, hu, rfl⟩
  cases v with
  | agg cs => obtain ⟨a, e, _, hr⟩ := h; cases e; exact hr
  | sym p a b => obtain ⟨L, h1, h2, h3, h4⟩ := h; cases h4; exact one _ _ ⟨L, h1, h2, h3, rfl⟩
  | any => cases hl
  | bool b => cases h; exact one _ _ rfl
  | int c n => obtain ⟨h1, h2⟩ := h; cases h2; exact one _ _ ⟨h1, rfl⟩
  | str l n => obtain ⟨h1, h2⟩ := h; cases h2; exact one _ _ ⟨h1, rfl⟩
  | ptr p o => obtain ⟨L, h1, h2⟩ := h; cases h2; exact one _ _ ⟨L, h1, rfl⟩
  | nilptr => cases h; exact one _ _ rfl
  | slice p a b c => obtain ⟨L, h1, h2, h3⟩ := h; cases h3; exact one _ _ ⟨L, h1, h2, rfl⟩
  | oslice p a b c =>
    have h' := h
    obtain ⟨L, h1, h2⟩ := h
    rcases h2 with ⟨_, _, _, e⟩ | ⟨_, _, _, e⟩ <;> cases e <;> exact one _ _ h'
  | nilslice => cases h; exact one _ _ rfl
  | map p => obtain ⟨L, h1, h2⟩ := h; cases h2; exact one _ _ ⟨L, h1, rfl⟩
  | yield p => obtain ⟨L, h1, h2⟩ := h; cases h2; exact one _ _ ⟨L, h1, rfl⟩
  | nilmap => cases h; exact one _ _ rfl
  | func f a b => have h' := h; obtain ⟨_, _, _, _, e, _⟩ := h; cases e; exact one _ _ h'
  | nilfunc => cases h; exact one _ _ rfl
  | iface t u => have h' := h; obtain ⟨_, e, _⟩ := h; cases e; exact one _ _ h'
  | niliface => cases h; exact one _ _ rfl
  | tuple cs => have h' := h; obtain ⟨_, e, _⟩ := h; cases e; exact one _ _ h'
  | nil => cases hl
  | cons a r => cases hl

/-! What an operation comes to. -/
def OpOk (P : Program) (ng : Nat) (ρ : Ren) (H : Heap) (w : World) (s : Sem Next) (v : AV) (H' : Heap) : Prop :=
  ∃ ρ' w' x nx, s.run P w = .ok nx w' ∧ (nx = .value x ∨ (nx = .skip ∧ x = undef)) ∧ RX ρ' v [x] ∧ HRel P ng ρ' H' w' ∧ Step ρ H w ρ' H' w'

structure Env (P : Program) (C : Ctx) (ρ : Ren) (ns : List (Option Tmp)) (ls : AV) (fr : Tr AV) (a : Act) (H : Heap) (w : World) : Prop where
  F : FRel C ρ fr a.tmps
  L : LRel ρ ns ls a.tmps
  H : HRel P C.ng ρ H w

section
variable {P : Program} {C : Ctx} {ρ : Ren} {ns : List (Option Tmp)} {ls : AV} {fr : Tr AV} {a : Act} {H H' : Heap} {w : World} {v : AV} {ci : CI}

theorem Env.opd (E : Env P C ρ ns ls fr a H w) {x : Operand} {y : Opd} {v : AV} (h : Dx.opd C ns x = some y) (hv : y.ev ls fr = some v) : RX ρ v [a.eval x] :=
  opd_rel E.F E.L E.H.globals h hv
theorem Env.opds (E : Env P C ρ ns ls fr a H w) {xs : List Operand} {ys : Opds} {vs : AV} (h : Dx.opds C ns xs = some ys) (hv : ys.ev ls fr = some vs) : RX ρ vs (xs.map a.eval) ∧ vs.isList = true :=
  opds_rel E.F E.L E.H.globals h hv

/-- An operation that leaves memory alone. -/
theorem OpOk.val {ng : Nat} (hH : HRel P ng ρ H w) {s : Sem Next} {x : Value} (hr : s.run P w = .ok (.value x) w) (hx : RX ρ v [x]) : OpOk P ng ρ H w s v H :=
  ⟨ρ, w, x, _, hr, .inl rfl, hx, hH, Step.refl ρ H w⟩

/-- The wrapper of an operation that answers a value. -/
theorem run_val {s : Sem Value} {w w' : World} {x : Value} (h : s.run P w = .ok x w') : (do pure (.value (← s)) : Sem Next).run P w = .ok (.value x) w' := by
  show (s >>= fun x => (pure (.value x) : Sem Next)).run P w = _
  rw [runB h]; rfl
theorem run_skip {s : Sem Unit} {w w' : World} (h : s.run P w = .ok () w') : (do s; pure .skip : Sem Next).run P w = .ok .skip w' := by
  show (s >>= fun _ => (pure .skip : Sem Next)).run P w = _
  rw [runB h]; rfl

/-! What values are, by what they stand for. -/
theorem RX.int_eq {c : Nat} {n : Int} {x : Value} (h : RX ρ (.int c n) [x]) : c < 8 ∧ x = .int (kindOf c) n := by obtain ⟨h1, h2⟩ := h; cases h2; exact ⟨h1, rfl⟩
theorem RX.bool_eq {b : Bool} {x : Value} (h : RX ρ (.bool b) [x]) : x = .bool b := by cases h; rfl
theorem RX.str_eq {l n : Nat} {x : Value} (h : RX ρ (.str l n) [x]) : n < 256 ^ l ∧ x = .string (textOf l n) := by obtain ⟨h1, h2⟩ := h; cases h2; exact ⟨h1, rfl⟩
theorem RX.ptr_eq {p : Pos} {o : Nat} {x : Value} (h : RX ρ (.ptr p o) [x]) : ∃ L, ρ p = some L ∧ x = .pointer (some ⟨L.b, L.base + o, none⟩) := by obtain ⟨L, h1, h2⟩ := h; cases h2; exact ⟨L, h1, rfl⟩
theorem RX.slice_eq {p : Pos} {o n c : Nat} {x : Value} (h : RX ρ (.slice p o n c) [x]) : ∃ L, ρ p = some L ∧ n ≤ c ∧ x = .slice (some ⟨L.b, L.base + o, none⟩) n c := by obtain ⟨L, h1, h2, h3⟩ := h; cases h3; exact ⟨L, h1, h2, rfl⟩
theorem RX.agg_eq {cs : AV} {x : Value} (h : RX ρ (.agg cs) [x]) : ∃ xs, x = .agg xs ∧ cs.isList = true ∧ RX ρ cs xs.toList := by obtain ⟨y, e, h1, h2⟩ := h; cases e; exact ⟨y, rfl, h1, h2⟩
theorem RX.tuple_eq {cs : AV} {x : Value} (h : RX ρ (.tuple cs) [x]) : ∃ xs, x = .tuple xs ∧ cs.isList = true ∧ RX ρ cs xs.toList := by obtain ⟨y, e, h1, h2⟩ := h; cases e; exact ⟨y, rfl, h1, h2⟩
theorem RX.map_eq {p : Pos} {x : Value} (h : RX ρ (.map p) [x]) : ∃ L, ρ p = some L ∧ x = .map (some L.b) := by obtain ⟨L, h1, h2⟩ := h; cases h2; exact ⟨L, h1, rfl⟩
theorem RX.iface_eq {t : Nat} {u : AV} {x : Value} (h : RX ρ (.iface t u) [x]) : ∃ y, x = .iface t y ∧ RX ρ u [y] := by obtain ⟨y, e, h2⟩ := h; cases e; exact ⟨y, rfl, h2⟩

theorem RX.sym_eq {p : Pos} {lo hi : Int} {x : Value} (h : RX ρ (.sym p lo hi) [x]) : ∃ L, ρ p = some L ∧ lo ≤ (L.base : Int) - L.sz ∧ (L.base : Int) - L.sz ≤ hi ∧ x = .int (kindOf 3) ((L.base : Int) - L.sz) := by obtain ⟨L, h1, h2, h3, h4⟩ := h; cases h4; exact ⟨L, h1, h2, h3, rfl⟩
/-- One that is not known, twice. -/
theorem RX.sym_same {p : Pos} {lo hi lo' hi' : Int} {x y : Value} (h : RX ρ (.sym p lo hi) [x]) (k : RX ρ (.sym p lo' hi') [y]) : x = y ∧ ∃ n, x = .int (kindOf 3) n := by
  obtain ⟨L, h1, _, _, rfl⟩ := h.sym_eq
  obtain ⟨M, h2, _, _, rfl⟩ := k.sym_eq
  rw [h1] at h2
  cases h2
  exact ⟨rfl, _, rfl⟩
theorem symCmp_cmp {op : BinOp} {lo hi n b : Int} {r : Bool} (h : symCmp op lo hi b = some r) (h1 : lo ≤ n) (h2 : n ≤ hi) : cmpI op n b = some r := by
  unfold symCmp at h
  split at h <;> first
    | (split at h
       · cases h; simp only [cmpI, Option.some.injEq, decide_eq_true_eq]; omega
       · split at h
         · cases h; simp only [cmpI, Option.some.injEq, decide_eq_false_iff_not]; omega
         · cases h)
    | cases h
theorem cmpV_rel {op : BinOp} {u v : AV} {b : Bool} {x y : Value} (h : cmpV op u v = some b) (hx : RX ρ u [x]) (hy : RX ρ v [y]) : ∃ c m n, c < 8 ∧ x = .int (kindOf c) m ∧ y = .int (kindOf c) n ∧ cmpI op m n = some b := by
  unfold cmpV at h
  split at h
  · split at h
    · rename_i hc
      subst hc
      obtain ⟨c1, x1⟩ := hx
      obtain ⟨c2, x2⟩ := hy
      cases x1
      cases x2
      exact ⟨_, _, _, c1, rfl, rfl, h⟩
    · cases h
  · split at h
    · rename_i hc
      subst hc
      obtain ⟨L, _, h1, h2, rfl⟩ := hx.sym_eq
      obtain ⟨_, x2⟩ := hy
      cases x2
      exact ⟨_, _, _, by decide, rfl, rfl, symCmp_cmp h h1 h2⟩
    · cases h
  · cases h
theorem asInt_eq {u : AV} {c : Nat} {n : Int} (h : asInt u = some (c, n)) : u = .int c n := by cases u <;> simp [asInt] at h; obtain ⟨rfl, rfl⟩ := h; rfl
theorem asBool_eq {u : AV} {b : Bool} (h : asBool u = some b) : u = .bool b := by cases u <;> simp [asBool] at h; subst h; rfl
theorem asNat_eq {u : AV} {n : Nat} (h : asNat u = some n) : ∃ c, u = .int c (Int.ofNat n) := by
  unfold asNat at h
  split at h
  · cases h; exact ⟨_, rfl⟩
  · cases h

theorem run_arith {op : BinOp} {c : Nat} {x y : Int} {u : AV} (t : TypeId) (hc : c < 8) (h : arithI op c x y = some u) (w : World) :
    ∃ z, (binOp op t (.int (kindOf c) x) (.int (kindOf c) y)).run P w = .ok z w ∧ RX ρ u [z] := by
  unfold arithI at h
  have pr : ∀ z : Value, (pure z : Sem Value).run P w = .ok z w := fun z => rfl
  cases op <;> simp only at h <;> first
    | (cases h; done)
    | (cases h; refine ⟨_, ?_, hc, rfl⟩; simp [binOp, Op.intArith, pr]; done)
    | (cases h; refine ⟨_, ?_, hc, rfl⟩; simp [binOp, Op.intBits, pr]; done)
    | (split at h
       · cases h
       · rename_i hy
         cases h
         refine ⟨_, ?_, hc, rfl⟩
         simp [binOp, Op.intDiv, hy, pr])

theorem run_shift {op : BinOp} {c d : Nat} {x y : Int} {u : AV} (t : TypeId) (hc : c < 8) (h : shiftI op c x y = some u) (w : World) :
    ∃ z, (binOp op t (.int (kindOf c) x) (.int (kindOf d) y)).run P w = .ok z w ∧ RX ρ u [z] := by
  unfold shiftI at h
  simp only at h
  split at h
  · cases h
  · rename_i hy
    have pr : ∀ z : Value, (pure z : Sem Value).run P w = .ok z w := fun z => rfl
    cases op <;> simp only at h <;> first
      | (cases h; done)
      | (cases h; refine ⟨_, ?_, hc, rfl⟩; simp [binOp, Op.shift, hy, pr]; done)

theorem run_cmp {op : BinOp} {c : Nat} {x y : Int} {b : Bool} (t : TypeId) (h : cmpI op x y = some b) (w : World) :
    (binOp op t (.int (kindOf c) x) (.int (kindOf c) y)).run P w = .ok (.bool b) w := by
  unfold cmpI at h
  have pr : ∀ z : Value, (pure z : Sem Value).run P w = .ok z w := fun z => rfl
  cases op <;> simp only at h <;> first
    | (cases h; done)
    | (cases h; simp [binOp, Op.intCmp, pr]; done)

end
end Go.Dx
