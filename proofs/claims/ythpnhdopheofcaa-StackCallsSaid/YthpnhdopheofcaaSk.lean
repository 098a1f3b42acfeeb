import Derived.Test.YthpnhdopheofcaaSt
import Derived.Test.YthpnhdopheofcaaFns
import Derived.Test.YthpnhdopheofcaaDxAsl
set_option linter.unusedSimpArgs false
set_option linter.unusedVariables false
section
namespace Go.Proofs.Ythpnhdopheofcaa
open Go.Dx
variable {tbl : Nat → Option CFunc}

/-! A coroutine's calls. -/
structure Fr where
  base : Int
  pc : Int
  tries : List (Int × Int)
def FrR (f : Fr) (tv : AV) : List AV := [.int 3 f.base, .int 3 f.pc, tv]
def FrL (l : List Fr) (tv : Nat → AV) : List (List AV) := l.mapIdx fun i f => FrR f (tv i)
theorem frL_len (l : List Fr) (tv : Nat → AV) : (FrL l tv).length = l.length := by simp [FrL]
theorem frL_at (l : List Fr) (tv : Nat → AV) {i : Nat} (hi : i < l.length) : (FrL l tv)[i]? = some (FrR l[i] (tv i)) := by simp [FrL, hi]

/-- Where a stack lies. -/
structure SkY where
  sp : Pos
  hp : Pos
  cv : AV
  tv : Nat → AV

structure SkB (M : Mem) (own : Own) (Z : SkY) (co : Int) (calls : List Fr) : Prop where
  inn : own.in M
  spo : own Z.sp = some (20, 0)
  spc : M.get Z.sp = some (.cells [.ptr Z.hp 0, .int 3 8, .int 3 co, Z.cv] false)
  cal : SlO M own (21, 0) Z.cv 3 (FrL calls Z.tv)
  try_ : ∀ i (hi : i < calls.length), SlO M own (22, (i : Int)) (Z.tv i) 2 (PairL (calls[i]'hi).tries)

/-- A stack at a place, with its heap, apart from what is P's. -/
def StackIs (M : Mem) (sp : Pos) (P : Pos → Prop) (co : Int) (calls : List Fr) (G : Hp) : Prop :=
  ∃ own Z, Z.sp = sp ∧ (∀ p, P p → own p = none ∧ p.num < M.next.num) ∧ SkB M own Z co calls ∧ HeapIs M Z.hp (fun p => P p ∨ own p ≠ none) G

theorem SkB.keep {M M' : Mem} {own : Own} {Z : SkY} {co : Int} {calls : List Fr} (h : SkB M own Z co calls) (hb : But (fun p => own p = none) M M') : SkB M' own Z co calls := by
  have k : ∀ p b t, own p = some t → M.get p = some b → M'.get p = some b := fun p b t ho hp => hb.get p b (by rw [ho]; simp) hp
  have ks : ∀ {t v size L}, SlO M own t v size L → SlO M' own t v size L := fun hs => hs.keep (fun p b ho hp => k p b _ ho hp) fun _ h => h
  exact ⟨Own.in.mono h.inn hb.next, h.spo, k _ _ _ h.spo h.spc, ks h.cal, fun i hi => ks (h.try_ i hi)⟩
theorem StackIs.frame {M M' : Mem} {sp : Pos} {P : Pos → Prop} {co : Int} {calls : List Fr} {G : Hp} (h : StackIs M sp P co calls G) (hb : But P M M') : StackIs M' sp P co calls G := by
  obtain ⟨own, Z, h1, h2, h3, h4⟩ := h
  exact ⟨own, Z, h1, fun p hp => ⟨(h2 p hp).1, Nat.lt_of_lt_of_le (h2 p hp).2 hb.next⟩, h3.keep (hb.mono fun p hp => (h2 p hp).1), h4.frame (hb.mono fun p hp => .inl hp)⟩
theorem StackIs.quiet {M M' : Mem} {sp : Pos} {P : Pos → Prop} {co : Int} {calls : List Fr} {G : Hp} (h : StackIs M sp P co calls G) (hb : But (fun _ => False) M M') : StackIs M' sp P co calls G := h.frame (hb.any _)

theorem n_spec (h : tbl 69 = some cf69) {M : Mem} {sp : Pos} {P : Pos → Prop} {co : Int} {calls : List Fr} {G : Hp} (hS : StackIs M sp P co calls G) :
    CallW tbl 69 (.cons (.ptr sp 0) .nil) M fun r M' => r = .ret (.int 3 co) ∧ M' = M := by
  obtain ⟨own, Z, rfl, hP, hB, hH⟩ := hS
  refine CallW.intro h rfl (fr := .nod (.val .leaf (.ptr Z.sp 0) .leaf) .leaf) rfl ?_
  simp only [go_sem, reduceCtorEq, Nat.reduceEqDiff, Nat.reduceAdd, Nat.reduceMul, Nat.reduceLeDiff, Nat.reduceSub, Nat.reduceLT, Nat.reduceBEq, Nat.reduceBNe, Int.reduceBEq, Int.reduceBNe, Int.reduceLT, Int.reduceLE, Int.reduceAdd, Int.reduceEq, Int.reduceNe, beq_self_eq_true, bne_self_eq_false, decide_true, decide_false, Bool.not_true, Bool.not_false, Bool.false_eq_true, false_and, and_false, not_true_eq_false, not_false_eq_true, cf69, hB.spc]

/-- The innermost call's cells. -/
theorem top_spec (h : tbl 70 = some cf70) {M : Mem} {own : Own} {Z : SkY} {co : Int} {calls : List Fr} (hB : SkB M own Z co calls) (hc : calls ≠ []) (hl : calls.length < 2 ^ 62) :
    ∃ p o n, slAt Z.cv = some (p, o, n) ∧ CallW tbl 70 (.cons (.ptr Z.sp 0) .nil) M fun r M' => r = .ret (.ptr p (o + (calls.length - 1) * 3)) ∧ M' = M := by
  have h0 : 0 < calls.length := List.length_pos_iff.2 hc
  obtain ⟨p, o, a1, a2⟩ := hB.cal.rows.at_ (i := calls.length - 1) (by rw [frL_len]; omega)
  rw [frL_len] at a1
  refine ⟨p, o, _, a1, ?_⟩
  refine CallW.intro h rfl (fr := .nod (.val .leaf (.ptr Z.sp 0) .leaf) .leaf) rfl ?_
  have hlen := hB.cal.len
  rw [frL_len] at hlen
  have e0 : IntKind.i64.wrap ((calls.length : Int) - 1) = ((calls.length - 1 : Nat) : Int) := by rw [wrap64 (by omega) (by omega)]; omega
  have hlt : calls.length - 1 < calls.length := by omega
  simp only [go_sem, reduceCtorEq, Nat.reduceEqDiff, Nat.reduceAdd, Nat.reduceMul, Nat.reduceLeDiff, Nat.reduceSub, Nat.reduceLT, Nat.reduceBEq, Nat.reduceBNe, Int.reduceBEq, Int.reduceBNe, Int.reduceLT, Int.reduceLE, Int.reduceAdd, Int.reduceEq, Int.reduceNe, beq_self_eq_true, bne_self_eq_false, decide_true, decide_false, Bool.not_true, Bool.not_false, Bool.false_eq_true, false_and, and_false, not_true_eq_false, not_false_eq_true, cf70, hB.spc, hlen, e0, a1, hlt]
end Go.Proofs.Ythpnhdopheofcaa

end
section
namespace Go.Proofs.Ythpnhdopheofcaa
open Go.Dx
variable {tbl : Nat → Option CFunc}

section
variable (h25 : tbl 25 = some cf25) (h69 : tbl 69 = some cf69) (h72 : tbl 72 = some cf72) (h75 : tbl 75 = some cf75) (h76 : tbl 76 = some cf76)
include h25 h69 h72 h75 h76

theorem slots_spec {M : Mem} {sp : Pos} {P : Pos → Prop} {co : Int} {calls : List Fr} {G : Hp} {o : Ob} (hS : StackIs M sp P co calls G) (ho : G.objs co = some o) (hl : o.slots.length ≤ most) :
    CallW tbl 72 (.cons (.ptr sp 0) .nil) M fun r M' => r = .ret (.int 3 o.slots.length) ∧ But (fun _ => False) M M' := by
  have hS0 := hS
  obtain ⟨own, Z, rfl, hP, hB, hH⟩ := hS
  refine CallW.intro h72 rfl (fr := .nod (.val .leaf (.ptr Z.sp 0) .leaf) .leaf) rfl ?_
  simp only [go_sem, reduceCtorEq, Nat.reduceEqDiff, Nat.reduceAdd, Nat.reduceMul, Nat.reduceLeDiff, Nat.reduceSub, Nat.reduceLT, Nat.reduceBEq, Nat.reduceBNe, Int.reduceBEq, Int.reduceBNe, Int.reduceLT, Int.reduceLE, Int.reduceAdd, Int.reduceEq, Int.reduceNe, beq_self_eq_true, bne_self_eq_false, decide_true, decide_false, Bool.not_true, Bool.not_false, Bool.false_eq_true, false_and, and_false, not_true_eq_false, not_false_eq_true, cf72]
  refine (n_spec h69 hS0).use ?_
  rintro r M1 hw1 ⟨rfl, rfl⟩
  simp only [go_sem, reduceCtorEq, Nat.reduceEqDiff, Nat.reduceAdd, Nat.reduceMul, Nat.reduceLeDiff, Nat.reduceSub, Nat.reduceLT, Nat.reduceBEq, Nat.reduceBNe, Int.reduceBEq, Int.reduceBNe, Int.reduceLT, Int.reduceLE, Int.reduceAdd, Int.reduceEq, Int.reduceNe, beq_self_eq_true, bne_self_eq_false, decide_true, decide_false, Bool.not_true, Bool.not_false, Bool.false_eq_true, false_and, and_false, not_true_eq_false, not_false_eq_true, hB.spc]
  refine (obj_some h25 h75 h76 hH ho hl).use ?_
  rintro r M2 hw2 ⟨sv, rfl, hf, b⟩
  have hlen := hf.rows.len
  rw [vlL_len] at hlen
  simp only [go_sem, reduceCtorEq, Nat.reduceEqDiff, Nat.reduceAdd, Nat.reduceMul, Nat.reduceLeDiff, Nat.reduceSub, Nat.reduceLT, Nat.reduceBEq, Nat.reduceBNe, Int.reduceBEq, Int.reduceBNe, Int.reduceLT, Int.reduceLE, Int.reduceAdd, Int.reduceEq, Int.reduceNe, beq_self_eq_true, bne_self_eq_false, decide_true, decide_false, Bool.not_true, Bool.not_false, Bool.false_eq_true, false_and, and_false, not_true_eq_false, not_false_eq_true, ObA, hlen]
  first | exact b | exact ⟨rfl, b⟩
end
section
variable (h25 : tbl 25 = some cf25) (h67 : tbl 67 = some cf67) (h69 : tbl 69 = some cf69) (h70 : tbl 70 = some cf70) (h72 : tbl 72 = some cf72) (h75 : tbl 75 = some cf75) (h76 : tbl 76 = some cf76)
include h25 h67 h69 h70 h72 h75 h76

theorem state_ok {M : Mem} {sp : Pos} {P : Pos → Prop} {co : Int} {cs : List Fr} {f : Fr} {G : Hp} {o : Ob} (hS : StackIs M sp P co (cs ++ [f]) G) (ho : G.objs co = some o) (hk : o.kind = 8) (hl : o.slots.length ≤ most) (hb : 0 ≤ f.base ∧ f.base + 1 ≤ o.slots.length) (hcl : cs.length < 2 ^ 30) :
    CallW tbl 67 (.cons (.ptr sp 0) .nil) M fun r M' => r = .ret (.int 3 0) ∧ But (fun _ => False) M M' := by
  have hS0 := hS
  obtain ⟨own, Z, rfl, hP, hB, hH⟩ := hS
  refine CallW.intro h67 rfl (fr := .nod (.val .leaf (.ptr Z.sp 0) .leaf) .leaf) rfl ?_
  have hlen := hB.cal.len
  rw [frL_len] at hlen
  have g1 : ((((cs ++ [f]).length : Nat) : Int) == 0) = false := by simp; omega
  simp only [go_sem, reduceCtorEq, Nat.reduceEqDiff, Nat.reduceAdd, Nat.reduceMul, Nat.reduceLeDiff, Nat.reduceSub, Nat.reduceLT, Nat.reduceBEq, Nat.reduceBNe, Int.reduceBEq, Int.reduceBNe, Int.reduceLT, Int.reduceLE, Int.reduceAdd, Int.reduceEq, Int.reduceNe, beq_self_eq_true, bne_self_eq_false, decide_true, decide_false, Bool.not_true, Bool.not_false, Bool.false_eq_true, false_and, and_false, not_true_eq_false, not_false_eq_true, cf67, hB.spc, hlen, g1]
  refine (n_spec h69 hS0).use ?_
  rintro r M1 hw1 ⟨rfl, rfl⟩
  simp only [go_sem, reduceCtorEq, Nat.reduceEqDiff, Nat.reduceAdd, Nat.reduceMul, Nat.reduceLeDiff, Nat.reduceSub, Nat.reduceLT, Nat.reduceBEq, Nat.reduceBNe, Int.reduceBEq, Int.reduceBNe, Int.reduceLT, Int.reduceLE, Int.reduceAdd, Int.reduceEq, Int.reduceNe, beq_self_eq_true, bne_self_eq_false, decide_true, decide_false, Bool.not_true, Bool.not_false, Bool.false_eq_true, false_and, and_false, not_true_eq_false, not_false_eq_true, hB.spc]
  refine (obj_some h25 h75 h76 hH ho hl).use ?_
  rintro r M2 hw2 ⟨sv, rfl, hf, b⟩
  have g2 : (o.kind != 8) = false := by simp [hk]
  simp only [go_sem, reduceCtorEq, Nat.reduceEqDiff, Nat.reduceAdd, Nat.reduceMul, Nat.reduceLeDiff, Nat.reduceSub, Nat.reduceLT, Nat.reduceBEq, Nat.reduceBNe, Int.reduceBEq, Int.reduceBNe, Int.reduceLT, Int.reduceLE, Int.reduceAdd, Int.reduceEq, Int.reduceNe, beq_self_eq_true, bne_self_eq_false, decide_true, decide_false, Bool.not_true, Bool.not_false, Bool.false_eq_true, false_and, and_false, not_true_eq_false, not_false_eq_true, ObA, g2]
  refine (slots_spec h25 h69 h72 h75 h76 (hS0.quiet b) ho hl).use ?_
  rintro r M3 hw3 ⟨rfl, b3⟩
  simp only [go_sem, reduceCtorEq, Nat.reduceEqDiff, Nat.reduceAdd, Nat.reduceMul, Nat.reduceLeDiff, Nat.reduceSub, Nat.reduceLT, Nat.reduceBEq, Nat.reduceBNe, Int.reduceBEq, Int.reduceBNe, Int.reduceLT, Int.reduceLE, Int.reduceAdd, Int.reduceEq, Int.reduceNe, beq_self_eq_true, bne_self_eq_false, decide_true, decide_false, Bool.not_true, Bool.not_false, Bool.false_eq_true, false_and, and_false, not_true_eq_false, not_false_eq_true]
  have hB3 := (hB.keep ((b.trans b3).any _))
  obtain ⟨p, po, pn, a1, htop⟩ := top_spec h70 hB3 (by simp) (by simp; omega)
  refine htop.use ?_
  rintro r M4 hw4 ⟨rfl, rfl⟩
  obtain ⟨q, u, c1, c2⟩ := hB3.cal.rows.at_ (i := cs.length) (by rw [frL_len]; simp)
  rw [a1] at c1
  cases c1
  rw [frL_at _ _ (by simp)] at c2
  have c3 : MB.cell (M4.get p) (po + cs.length * 3) = some (.int 3 f.base) := by have := MB.cell_row c2 (j := 0) (by omega); simpa [FrR] using this
  have e1 : (cs ++ [f]).length - 1 = cs.length := by simp
  have e2 : IntKind.i64.wrap (f.base + 1) = f.base + 1 := wrap64 (by omega) (by simp [most] at hl; omega)
  have g3 : decide ((o.slots.length : Int) < f.base + 1) = false := by simp; omega
  simp only [go_sem, reduceCtorEq, Nat.reduceEqDiff, Nat.reduceAdd, Nat.reduceMul, Nat.reduceLeDiff, Nat.reduceSub, Nat.reduceLT, Nat.reduceBEq, Nat.reduceBNe, Int.reduceBEq, Int.reduceBNe, Int.reduceLT, Int.reduceLE, Int.reduceAdd, Int.reduceEq, Int.reduceNe, beq_self_eq_true, bne_self_eq_false, decide_true, decide_false, Bool.not_true, Bool.not_false, Bool.false_eq_true, false_and, and_false, not_true_eq_false, not_false_eq_true, e1, Nat.add_zero, c3, e2, g3]
  first | exact b.trans b3 | exact ⟨rfl, b.trans b3⟩
end
end Go.Proofs.Ythpnhdopheofcaa

end
section
namespace Go.Proofs.Ythpnhdopheofcaa
open Go.Dx
variable {tbl : Nat → Option CFunc}

/-- The functions of a heap and of a stack. -/
structure SkT (tbl : Nat → Option CFunc) : Prop where
  h15 : tbl 15 = some cf15
  h17 : tbl 17 = some cf17
  h18 : tbl 18 = some cf18
  h19 : tbl 19 = some cf19
  h20 : tbl 20 = some cf20
  h24 : tbl 24 = some cf24
  h26 : tbl 26 = some cf26
  h28 : tbl 28 = some cf28
  h29 : tbl 29 = some cf29
  h31 : tbl 31 = some cf31
  h40 : tbl 40 = some cf40
  h48 : tbl 48 = some cf48
  h78 : tbl 78 = some cf78
  h84 : tbl 84 = some cf84
  h99 : tbl 99 = some cf99
  h130 : tbl 130 = some cf130
  h21 : tbl 21 = some cf21
  h22 : tbl 22 = some cf22
  h23 : tbl 23 = some cf23
  h25 : tbl 25 = some cf25
  h37 : tbl 37 = some cf37
  h38 : tbl 38 = some cf38
  h67 : tbl 67 = some cf67
  h68 : tbl 68 = some cf68
  h69 : tbl 69 = some cf69
  h70 : tbl 70 = some cf70
  h71 : tbl 71 = some cf71
  h72 : tbl 72 = some cf72
  h73 : tbl 73 = some cf73
  h74 : tbl 74 = some cf74
  h75 : tbl 75 = some cf75
  h76 : tbl 76 = some cf76
  h77 : tbl 77 = some cf77
  h80 : tbl 80 = some cf80
  h81 : tbl 81 = some cf81
  h83 : tbl 83 = some cf83
  h85 : tbl 85 = some cf85
  h115 : tbl 115 = some cf115
  h116 : tbl 116 = some cf116
  h117 : tbl 117 = some cf117
  h120 : tbl 120 = some cf120
  h143 : tbl 143 = some cf143

/-- The stack's heap lies there. -/
def HpOf (M : Mem) (sp hp : Pos) : Prop := ∃ co cv, M.get sp = some (.cells [.ptr hp 0, .int 3 8, .int 3 co, cv] false)
theorem HpOf.same {M M1 : Mem} {sp hp0 hp : Pos} {co : Int} {cv : AV} (h : HpOf M sp hp0) (hb : But (fun _ => False) M M1) (hs : M1.get sp = some (.cells [.ptr hp 0, .int 3 8, .int 3 co, cv] false)) : hp = hp0 := by
  obtain ⟨co', cv', h⟩ := h
  have := hb.get _ _ id h
  rw [hs] at this
  simp only [Option.some.injEq, MB.cells.injEq, List.cons.injEq, AV.ptr.injEq] at this
  exact this.1.1.1
/-- A stack in order: its coroutine, and its innermost call. -/
structure Good (G : Hp) (co : Int) (cs : List Fr) (f : Fr) (o : Ob) : Prop where
  obj : G.objs co = some o
  kind : o.kind = 8
  len : o.slots.length ≤ 2 ^ 30
  low : 0 ≤ f.base
  base : f.base + 1 ≤ o.slots.length
  calls : cs.length < 2 ^ 30

theorem Good.most {G : Hp} {co : Int} {cs : List Fr} {f : Fr} {o : Ob} (h : Good G co cs f o) : o.slots.length ≤ Go.Dx.most := by have := h.len; simp only [Go.Dx.most]; omega
theorem Good.state (T : SkT tbl) {M : Mem} {sp : Pos} {P : Pos → Prop} {co : Int} {cs : List Fr} {f : Fr} {G : Hp} {o : Ob} (h : Good G co cs f o) (hS : StackIs M sp P co (cs ++ [f]) G) :
    CallW tbl 67 (.cons (.ptr sp 0) .nil) M fun r M' => r = .ret (.int 3 0) ∧ But (fun _ => False) M M' :=
  state_ok T.h25 T.h67 T.h69 T.h70 T.h72 T.h75 T.h76 hS h.obj h.kind h.most ⟨h.low, h.base⟩ h.calls
theorem Good.slots (T : SkT tbl) {M : Mem} {sp : Pos} {P : Pos → Prop} {co : Int} {cs : List Fr} {f : Fr} {G : Hp} {o : Ob} (h : Good G co cs f o) (hS : StackIs M sp P co (cs ++ [f]) G) :
    CallW tbl 72 (.cons (.ptr sp 0) .nil) M fun r M' => r = .ret (.int 3 o.slots.length) ∧ But (fun _ => False) M M' :=
  slots_spec T.h25 T.h69 T.h72 T.h75 T.h76 hS h.obj h.most
/-- The innermost call's cells, and what is in them. -/
theorem Good.top (T : SkT tbl) {M : Mem} {own : Own} {Z : SkY} {co : Int} {cs : List Fr} {f : Fr} (hB : SkB M own Z co (cs ++ [f])) (hc : cs.length < 2 ^ 30) :
    ∃ p o n, slAt Z.cv = some (p, o, n) ∧ (CallW tbl 70 (.cons (.ptr Z.sp 0) .nil) M fun r M' => r = .ret (.ptr p (o + cs.length * 3)) ∧ M' = M) ∧
      MB.cell (M.get p) (o + cs.length * 3) = some (.int 3 f.base) ∧ MB.cell (M.get p) (o + cs.length * 3 + 1) = some (.int 3 f.pc) ∧ MB.cell (M.get p) (o + cs.length * 3 + 2) = some (Z.tv cs.length) ∧ own p = some (21, 0) := by
  obtain ⟨p, po, pn, a1, htop⟩ := top_spec T.h70 hB (by simp) (by simp; omega)
  obtain ⟨q, u, c1, c2⟩ := hB.cal.rows.at_ (i := cs.length) (by rw [frL_len]; simp)
  rw [a1] at c1
  cases c1
  rw [frL_at _ _ (by simp)] at c2
  have e1 : (cs ++ [f]).length - 1 = cs.length := by simp
  rw [e1] at htop
  have c3 : MB.cell (M.get p) (po + cs.length * 3) = some (.int 3 f.base) := by have := MB.cell_row c2 (j := 0) (by omega); simpa [FrR] using this
  have c4 : MB.cell (M.get p) (po + cs.length * 3 + 1) = some (.int 3 f.pc) := by have := MB.cell_row c2 (j := 1) (by omega); simpa [FrR] using this
  have c5 : MB.cell (M.get p) (po + cs.length * 3 + 2) = some (Z.tv cs.length) := by have := MB.cell_row c2 (j := 2) (by omega); simpa [FrR] using this
  exact ⟨p, po, _, a1, htop, c3, c4, c5, hB.cal.own_ (fun e => by have := congrArg List.length e; rw [frL_len] at this; simp at this) a1⟩

theorem height_spec (T : SkT tbl) {M : Mem} {sp : Pos} {P : Pos → Prop} {co : Int} {cs : List Fr} {f : Fr} {G : Hp} {o : Ob} (h : Good G co cs f o) (hS : StackIs M sp P co (cs ++ [f]) G) :
    CallW tbl 21 (.cons (.ptr sp 0) .nil) M fun r M' => r = .ret (.int 3 (o.slots.length - f.base - 1)) ∧ But (fun _ => False) M M' := by
  refine CallW.intro T.h21 rfl (fr := .nod (.val .leaf (.ptr sp 0) .leaf) .leaf) rfl ?_
  simp only [go_sem, reduceCtorEq, Nat.reduceEqDiff, Nat.reduceAdd, Nat.reduceMul, Nat.reduceLeDiff, Nat.reduceSub, Nat.reduceLT, Nat.reduceBEq, Nat.reduceBNe, Int.reduceBEq, Int.reduceBNe, Int.reduceLT, Int.reduceLE, Int.reduceAdd, Int.reduceEq, Int.reduceNe, beq_self_eq_true, bne_self_eq_false, decide_true, decide_false, Bool.not_true, Bool.not_false, Bool.false_eq_true, false_and, and_false, not_true_eq_false, not_false_eq_true, cf21]
  refine (h.state T hS).use ?_
  rintro r M1 hw1 ⟨rfl, b1⟩
  simp only [go_sem, reduceCtorEq, Nat.reduceEqDiff, Nat.reduceAdd, Nat.reduceMul, Nat.reduceLeDiff, Nat.reduceSub, Nat.reduceLT, Nat.reduceBEq, Nat.reduceBNe, Int.reduceBEq, Int.reduceBNe, Int.reduceLT, Int.reduceLE, Int.reduceAdd, Int.reduceEq, Int.reduceNe, beq_self_eq_true, bne_self_eq_false, decide_true, decide_false, Bool.not_true, Bool.not_false, Bool.false_eq_true, false_and, and_false, not_true_eq_false, not_false_eq_true]
  refine (h.slots T (hS.quiet b1)).use ?_
  rintro r M2 hw2 ⟨rfl, b2⟩
  simp only [go_sem, reduceCtorEq, Nat.reduceEqDiff, Nat.reduceAdd, Nat.reduceMul, Nat.reduceLeDiff, Nat.reduceSub, Nat.reduceLT, Nat.reduceBEq, Nat.reduceBNe, Int.reduceBEq, Int.reduceBNe, Int.reduceLT, Int.reduceLE, Int.reduceAdd, Int.reduceEq, Int.reduceNe, beq_self_eq_true, bne_self_eq_false, decide_true, decide_false, Bool.not_true, Bool.not_false, Bool.false_eq_true, false_and, and_false, not_true_eq_false, not_false_eq_true]
  obtain ⟨own, Z, rfl, hP, hB, hH⟩ := hS.quiet (b1.trans b2)
  obtain ⟨p, po, pn, a1, htop, c0, c1, c2, _⟩ := Good.top T hB h.calls
  refine htop.use ?_
  rintro r M3 hw3 ⟨rfl, rfl⟩
  have h1 := h.len; have h2 := h.low; have h3 := h.base
  have e1 : IntKind.i64.wrap ((o.slots.length : Int) - f.base) = o.slots.length - f.base := wrap64 (by omega) (by omega)
  have e2 : IntKind.i64.wrap ((o.slots.length : Int) - f.base - 1) = o.slots.length - f.base - 1 := wrap64 (by omega) (by omega)
  simp only [go_sem, reduceCtorEq, Nat.reduceEqDiff, Nat.reduceAdd, Nat.reduceMul, Nat.reduceLeDiff, Nat.reduceSub, Nat.reduceLT, Nat.reduceBEq, Nat.reduceBNe, Int.reduceBEq, Int.reduceBNe, Int.reduceLT, Int.reduceLE, Int.reduceAdd, Int.reduceEq, Int.reduceNe, beq_self_eq_true, bne_self_eq_false, decide_true, decide_false, Bool.not_true, Bool.not_false, Bool.false_eq_true, false_and, and_false, not_true_eq_false, not_false_eq_true, Nat.add_zero, c0, e1, e2]
  first | exact b1.trans b2 | exact ⟨rfl, b1.trans b2⟩
theorem pc_spec (T : SkT tbl) {M : Mem} {sp : Pos} {P : Pos → Prop} {co : Int} {cs : List Fr} {f : Fr} {G : Hp} {o : Ob} (h : Good G co cs f o) (hS : StackIs M sp P co (cs ++ [f]) G) :
    CallW tbl 23 (.cons (.ptr sp 0) .nil) M fun r M' => r = .ret (.int 3 f.pc) ∧ But (fun _ => False) M M' := by
  refine CallW.intro T.h23 rfl (fr := .nod (.val .leaf (.ptr sp 0) .leaf) .leaf) rfl ?_
  simp only [go_sem, reduceCtorEq, Nat.reduceEqDiff, Nat.reduceAdd, Nat.reduceMul, Nat.reduceLeDiff, Nat.reduceSub, Nat.reduceLT, Nat.reduceBEq, Nat.reduceBNe, Int.reduceBEq, Int.reduceBNe, Int.reduceLT, Int.reduceLE, Int.reduceAdd, Int.reduceEq, Int.reduceNe, beq_self_eq_true, bne_self_eq_false, decide_true, decide_false, Bool.not_true, Bool.not_false, Bool.false_eq_true, false_and, and_false, not_true_eq_false, not_false_eq_true, cf23]
  refine (h.state T hS).use ?_
  rintro r M1 hw1 ⟨rfl, b1⟩
  simp only [go_sem, reduceCtorEq, Nat.reduceEqDiff, Nat.reduceAdd, Nat.reduceMul, Nat.reduceLeDiff, Nat.reduceSub, Nat.reduceLT, Nat.reduceBEq, Nat.reduceBNe, Int.reduceBEq, Int.reduceBNe, Int.reduceLT, Int.reduceLE, Int.reduceAdd, Int.reduceEq, Int.reduceNe, beq_self_eq_true, bne_self_eq_false, decide_true, decide_false, Bool.not_true, Bool.not_false, Bool.false_eq_true, false_and, and_false, not_true_eq_false, not_false_eq_true]
  obtain ⟨own, Z, rfl, hP, hB, hH⟩ := hS.quiet b1
  obtain ⟨p, po, pn, a1, htop, c0, c1, c2, _⟩ := Good.top T hB h.calls
  refine htop.use ?_
  rintro r M3 hw3 ⟨rfl, rfl⟩
  simp only [go_sem, reduceCtorEq, Nat.reduceEqDiff, Nat.reduceAdd, Nat.reduceMul, Nat.reduceLeDiff, Nat.reduceSub, Nat.reduceLT, Nat.reduceBEq, Nat.reduceBNe, Int.reduceBEq, Int.reduceBNe, Int.reduceLT, Int.reduceLE, Int.reduceAdd, Int.reduceEq, Int.reduceNe, beq_self_eq_true, bne_self_eq_false, decide_true, decide_false, Bool.not_true, Bool.not_false, Bool.false_eq_true, false_and, and_false, not_true_eq_false, not_false_eq_true, c1]
  first | exact b1 | exact ⟨rfl, b1⟩
end Go.Proofs.Ythpnhdopheofcaa

end
section
namespace Go.Proofs.Ythpnhdopheofcaa
open Go.Dx
variable {tbl : Nat → Option CFunc}

theorem But_reserve (M : Mem) (S : Pos → Prop) : But S M ⟨M.next.succ, M.get⟩ := ⟨by show M.next.num ≤ M.next.succ.num; rw [Pos.num_succ]; omega, fun _ _ _ h => h⟩

theorem slot_spec (T : SkT tbl) {M : Mem} {sp : Pos} {P : Pos → Prop} {co : Int} {cs : List Fr} {f : Fr} {G : Hp} {o : Ob} (h : Good G co cs f o) (hS : StackIs M sp P co (cs ++ [f]) G) {b : Int} {j : Nat} (hj : j < o.slots.length) (hb : f.base + b = (j : Int)) :
    CallW tbl 74 (.cons (.ptr sp 0) (.cons (.int 3 b) .nil)) M fun r M' => r = .ret (VlA o.slots[j]) ∧ But (fun _ => False) M M' := by
  refine CallW.wf fun hw => ?_
  refine CallW.intro T.h74 rfl (fr := .nod (.val .leaf (.ptr sp 0) .leaf) (.val .leaf (.int 3 b) .leaf)) rfl ?_
  simp only [go_sem, reduceCtorEq, Nat.reduceEqDiff, Nat.reduceAdd, Nat.reduceMul, Nat.reduceLeDiff, Nat.reduceSub, Nat.reduceLT, Nat.reduceBEq, Nat.reduceBNe, Int.reduceBEq, Int.reduceBNe, Int.reduceLT, Int.reduceLE, Int.reduceAdd, Int.reduceEq, Int.reduceNe, beq_self_eq_true, bne_self_eq_false, decide_true, decide_false, Bool.not_true, Bool.not_false, Bool.false_eq_true, false_and, and_false, not_true_eq_false, not_false_eq_true, cf74]
  have b0 := But.new (S := fun _ => False) hw (.cells [.int 3 0, .int 3 0] false)
  refine (h.state T (hS.quiet b0)).use ?_
  rintro r M1 hw1 ⟨rfl, b1⟩
  have hS1 := hS.quiet (b0.trans b1)
  simp only [go_sem, reduceCtorEq, Nat.reduceEqDiff, Nat.reduceAdd, Nat.reduceMul, Nat.reduceLeDiff, Nat.reduceSub, Nat.reduceLT, Nat.reduceBEq, Nat.reduceBNe, Int.reduceBEq, Int.reduceBNe, Int.reduceLT, Int.reduceLE, Int.reduceAdd, Int.reduceEq, Int.reduceNe, beq_self_eq_true, bne_self_eq_false, decide_true, decide_false, Bool.not_true, Bool.not_false, Bool.false_eq_true, false_and, and_false, not_true_eq_false, not_false_eq_true]
  have hS2 := hS1.quiet (But_reserve M1 _)
  refine (n_spec T.h69 hS2).use ?_
  rintro r M2 hw2 ⟨rfl, rfl⟩
  simp only [go_sem, reduceCtorEq, Nat.reduceEqDiff, Nat.reduceAdd, Nat.reduceMul, Nat.reduceLeDiff, Nat.reduceSub, Nat.reduceLT, Nat.reduceBEq, Nat.reduceBNe, Int.reduceBEq, Int.reduceBNe, Int.reduceLT, Int.reduceLE, Int.reduceAdd, Int.reduceEq, Int.reduceNe, beq_self_eq_true, bne_self_eq_false, decide_true, decide_false, Bool.not_true, Bool.not_false, Bool.false_eq_true, false_and, and_false, not_true_eq_false, not_false_eq_true]
  obtain ⟨own, Z, rfl, hP, hB, hH⟩ := hS2
  obtain ⟨p, po, pn, a1, htop, c0, c1, c2, _⟩ := Good.top T hB h.calls
  refine htop.use ?_
  rintro r M3 hw3 ⟨rfl, rfl⟩
  have hspc : M1.get Z.sp = some (.cells [.ptr Z.hp 0, .int 3 8, .int 3 co, Z.cv] false) := hB.spc
  have c0' : MB.cell (M1.get p) (po + cs.length * 3) = some (.int 3 f.base) := c0
  have e2 : IntKind.i64.wrap (f.base + b) = (j : Int) := by rw [hb]; have := h.len; exact wrap64 (by omega) (by omega)
  simp only [go_sem, reduceCtorEq, Nat.reduceEqDiff, Nat.reduceAdd, Nat.reduceMul, Nat.reduceLeDiff, Nat.reduceSub, Nat.reduceLT, Nat.reduceBEq, Nat.reduceBNe, Int.reduceBEq, Int.reduceBNe, Int.reduceLT, Int.reduceLE, Int.reduceAdd, Int.reduceEq, Int.reduceNe, beq_self_eq_true, bne_self_eq_false, decide_true, decide_false, Bool.not_true, Bool.not_false, Bool.false_eq_true, false_and, and_false, not_true_eq_false, not_false_eq_true, hspc, Nat.add_zero, c0', e2]
  refine (at_some T.h80 T.h75 hH h.obj hj).use ?_
  rintro r M4 hw4 ⟨rfl, b4⟩
  have hn : M1.next.succ.num ≤ M4.next.num := b4.next
  have hq : (M1.next.num < M4.next.num) = True := eq_true (by rw [Pos.num_succ] at hn; omega)
  have e1 : M1.get M.next = some (.cells [.int 3 0, .int 3 0] false) := b1.get _ _ id (by simp only [go_sem, reduceCtorEq, Nat.reduceEqDiff, Nat.reduceAdd, Nat.reduceMul, Nat.reduceLeDiff, Nat.reduceSub, Nat.reduceLT, Nat.reduceBEq, Nat.reduceBNe, Int.reduceBEq, Int.reduceBNe, Int.reduceLT, Int.reduceLE, Int.reduceAdd, Int.reduceEq, Int.reduceNe, beq_self_eq_true, bne_self_eq_false, decide_true, decide_false, Bool.not_true, Bool.not_false, Bool.false_eq_true, false_and, and_false, not_true_eq_false, not_false_eq_true])
  have ne := hw1.ne e1
  have e4 : M4.get M.next = some (.cells [.int 3 0, .int 3 0] false) := b4.get _ _ id e1
  simp only [go_sem, reduceCtorEq, Nat.reduceEqDiff, Nat.reduceAdd, Nat.reduceMul, Nat.reduceLeDiff, Nat.reduceSub, Nat.reduceLT, Nat.reduceBEq, Nat.reduceBNe, Int.reduceBEq, Int.reduceBNe, Int.reduceLT, Int.reduceLE, Int.reduceAdd, Int.reduceEq, Int.reduceNe, beq_self_eq_true, bne_self_eq_false, decide_true, decide_false, Bool.not_true, Bool.not_false, Bool.false_eq_true, false_and, and_false, not_true_eq_false, not_false_eq_true, VlA, hq, ne, e4]
  have n1 := (b0.trans b1).next
  have bp : But (fun p => p = M1.next ∨ p = M.next) M4 (((M4.put M1.next (.cells [.int 3 0, .int 3 0] false)).put M1.next (.cells [.int 3 o.slots[j].k, .int 3 o.slots[j].n] false)).put M.next (.cells [.int 3 o.slots[j].k, .int 3 o.slots[j].n] false)) :=
    ((But.put (p := M1.next) _ (.inl rfl) _).trans (But.put (p := M1.next) _ (.inl rfl) _)).trans (But.put (p := M.next) _ (.inr rfl) _)
  have bb := But.fresh (S := fun _ => False) hw (((((b0.trans b1).trans (But_reserve M1 _)).trans b4).any _).trans (bp.mono (S' := fun p => False ∨ M.next.num ≤ p.num) (by rintro p (rfl | rfl); exact .inr n1; exact .inr (Nat.le_refl _))))
  first | exact bb | exact ⟨rfl, bb⟩

theorem reg_spec (T : SkT tbl) {M : Mem} {sp : Pos} {P : Pos → Prop} {co : Int} {cs : List Fr} {f : Fr} {G : Hp} {o : Ob} (h : Good G co cs f o) (hS : StackIs M sp P co (cs ++ [f]) G) {a : Int} {j : Nat} (hj : j < o.slots.length) (ha : 0 ≤ a) (hb : f.base + (1 + a) = (j : Int)) :
    CallW tbl 22 (.cons (.ptr sp 0) (.cons (.int 3 a) .nil)) M fun r M' => r = .ret (VlA o.slots[j]) ∧ But (fun _ => False) M M' := by
  refine CallW.wf fun hw => ?_
  refine CallW.intro T.h22 rfl (fr := .nod (.val .leaf (.ptr sp 0) .leaf) (.val .leaf (.int 3 a) .leaf)) rfl ?_
  have g : decide (a < 0) = false := by simp; omega
  simp only [go_sem, reduceCtorEq, Nat.reduceEqDiff, Nat.reduceAdd, Nat.reduceMul, Nat.reduceLeDiff, Nat.reduceSub, Nat.reduceLT, Nat.reduceBEq, Nat.reduceBNe, Int.reduceBEq, Int.reduceBNe, Int.reduceLT, Int.reduceLE, Int.reduceAdd, Int.reduceEq, Int.reduceNe, beq_self_eq_true, bne_self_eq_false, decide_true, decide_false, Bool.not_true, Bool.not_false, Bool.false_eq_true, false_and, and_false, not_true_eq_false, not_false_eq_true, cf22, g]
  have b0 := But.new (S := fun _ => False) hw (.cells [.int 3 0, .int 3 0] false)
  refine (height_spec T h (hS.quiet b0)).use ?_
  rintro r M1 hw1 ⟨rfl, b1⟩
  have h1 := h.len; have h2 := h.low
  have g2 : decide ((o.slots.length : Int) - f.base - 1 ≤ a) = false := by simp; omega
  have e2 : IntKind.i64.wrap (1 + a) = 1 + a := wrap64 (by omega) (by omega)
  simp only [go_sem, reduceCtorEq, Nat.reduceEqDiff, Nat.reduceAdd, Nat.reduceMul, Nat.reduceLeDiff, Nat.reduceSub, Nat.reduceLT, Nat.reduceBEq, Nat.reduceBNe, Int.reduceBEq, Int.reduceBNe, Int.reduceLT, Int.reduceLE, Int.reduceAdd, Int.reduceEq, Int.reduceNe, beq_self_eq_true, bne_self_eq_false, decide_true, decide_false, Bool.not_true, Bool.not_false, Bool.false_eq_true, false_and, and_false, not_true_eq_false, not_false_eq_true, g2, e2]
  refine (slot_spec T h (hS.quiet (b0.trans b1)) hj hb).use ?_
  rintro r M2 hw2 ⟨rfl, b2⟩
  have e4 : M2.get M.next = some (.cells [.int 3 0, .int 3 0] false) := (b1.trans b2).get _ _ id (by simp only [go_sem, reduceCtorEq, Nat.reduceEqDiff, Nat.reduceAdd, Nat.reduceMul, Nat.reduceLeDiff, Nat.reduceSub, Nat.reduceLT, Nat.reduceBEq, Nat.reduceBNe, Int.reduceBEq, Int.reduceBNe, Int.reduceLT, Int.reduceLE, Int.reduceAdd, Int.reduceEq, Int.reduceNe, beq_self_eq_true, bne_self_eq_false, decide_true, decide_false, Bool.not_true, Bool.not_false, Bool.false_eq_true, false_and, and_false, not_true_eq_false, not_false_eq_true])
  simp only [go_sem, reduceCtorEq, Nat.reduceEqDiff, Nat.reduceAdd, Nat.reduceMul, Nat.reduceLeDiff, Nat.reduceSub, Nat.reduceLT, Nat.reduceBEq, Nat.reduceBNe, Int.reduceBEq, Int.reduceBNe, Int.reduceLT, Int.reduceLE, Int.reduceAdd, Int.reduceEq, Int.reduceNe, beq_self_eq_true, bne_self_eq_false, decide_true, decide_false, Bool.not_true, Bool.not_false, Bool.false_eq_true, false_and, and_false, not_true_eq_false, not_false_eq_true, VlA, e4]
  have bp : But (fun p => p = M.next) M2 (M2.put M.next (.cells [.int 3 o.slots[j].k, .int 3 o.slots[j].n] false)) := But.put (S := fun p => p = M.next) (p := M.next) _ rfl _
  have bb := But.fresh (S := fun _ => False) hw ((((b0.trans b1).trans b2).any _).trans (bp.mono (S' := fun p => False ∨ M.next.num ≤ p.num) (by rintro p rfl; exact .inr (Nat.le_refl _))))
  first | exact bb | exact ⟨rfl, bb⟩
end Go.Proofs.Ythpnhdopheofcaa

end
section
namespace Go.Proofs.Ythpnhdopheofcaa
open Go.Dx
variable {tbl : Nat → Option CFunc}

/-- What the heap did is not the stack's. -/
theorem StackIs.heap {M M' : Mem} {own : Own} {Z : SkY} {P : Pos → Prop} {co : Int} {calls : List Fr} {G' : Hp} (hP : ∀ p, P p → own p = none ∧ p.num < M.next.num) (hB : SkB M own Z co calls) (hH : HeapIs M' Z.hp (fun p => P p ∨ own p ≠ none) G') (hb : But (fun p => ¬ (P p ∨ own p ≠ none)) M M') :
    StackIs M' Z.sp P co calls G' ∧ But (fun p => ¬ P p) M M' :=
  ⟨⟨own, Z, rfl, fun p hp => ⟨(hP p hp).1, Nat.lt_of_lt_of_le (hP p hp).2 hb.next⟩, hB.keep (hb.mono fun p hn => by
    cases ho : own p with
    | none => rfl
    | some s => exact absurd (.inr (by rw [ho]; simp)) hn), hH⟩, hb.mono fun p hn hp => hn (.inl hp)⟩

theorem spush_ok (T : SkT tbl) {M : Mem} {sp : Pos} {P : Pos → Prop} {co : Int} {cs : List Fr} {f : Fr} {G : Hp} {o : Ob} {v : Vl} (h : Good G co cs f o) (hS : StackIs M sp P co (cs ++ [f]) G) (hh : (o.slots.length : Int) - f.base - 1 < 250) (hv : thereV G v = true) :
    CallW tbl 15 (.cons (.ptr sp 0) (.cons (VlA v) .nil)) M fun r M' => r = .ret (.int 3 0) ∧ StackIs M' sp P co (cs ++ [f]) { G with objs := upd G.objs co (some { o with slots := o.slots ++ [v] }) } ∧ But (fun p => ¬ P p) M M' ∧ ∀ hp, HpOf M sp hp → HpOf M' sp hp := by
  refine CallW.wf fun hw => ?_
  obtain ⟨vk, vn⟩ := v
  refine CallW.intro T.h15 rfl (fr := .nod (.val .leaf (.ptr sp 0) .leaf) (.val .leaf (VlA ⟨vk, vn⟩) .leaf)) rfl ?_
  simp only [go_sem, reduceCtorEq, Nat.reduceEqDiff, Nat.reduceAdd, Nat.reduceMul, Nat.reduceLeDiff, Nat.reduceSub, Nat.reduceLT, Nat.reduceBEq, Nat.reduceBNe, Int.reduceBEq, Int.reduceBNe, Int.reduceLT, Int.reduceLE, Int.reduceAdd, Int.reduceEq, Int.reduceNe, beq_self_eq_true, bne_self_eq_false, decide_true, decide_false, Bool.not_true, Bool.not_false, Bool.false_eq_true, false_and, and_false, not_true_eq_false, not_false_eq_true, cf15, VlA]
  have b0 := But.new (S := fun _ => False) hw (.cells [.int 3 vk, .int 3 vn] false)
  refine (h.state T (hS.quiet b0)).use ?_
  rintro r M1 hw1 ⟨rfl, b1⟩
  simp only [go_sem, reduceCtorEq, Nat.reduceEqDiff, Nat.reduceAdd, Nat.reduceMul, Nat.reduceLeDiff, Nat.reduceSub, Nat.reduceLT, Nat.reduceBEq, Nat.reduceBNe, Int.reduceBEq, Int.reduceBNe, Int.reduceLT, Int.reduceLE, Int.reduceAdd, Int.reduceEq, Int.reduceNe, beq_self_eq_true, bne_self_eq_false, decide_true, decide_false, Bool.not_true, Bool.not_false, Bool.false_eq_true, false_and, and_false, not_true_eq_false, not_false_eq_true]
  refine (height_spec T h (hS.quiet (b0.trans b1))).use ?_
  rintro r M2 hw2 ⟨rfl, b2⟩
  have g : decide (250 ≤ (o.slots.length : Int) - f.base - 1) = false := by simp; omega
  have hS2 := hS.quiet ((b0.trans b1).trans b2)
  simp only [go_sem, reduceCtorEq, Nat.reduceEqDiff, Nat.reduceAdd, Nat.reduceMul, Nat.reduceLeDiff, Nat.reduceSub, Nat.reduceLT, Nat.reduceBEq, Nat.reduceBNe, Int.reduceBEq, Int.reduceBNe, Int.reduceLT, Int.reduceLE, Int.reduceAdd, Int.reduceEq, Int.reduceNe, beq_self_eq_true, bne_self_eq_false, decide_true, decide_false, Bool.not_true, Bool.not_false, Bool.false_eq_true, false_and, and_false, not_true_eq_false, not_false_eq_true, g]
  refine (n_spec T.h69 hS2).use ?_
  rintro r M3 hw3 ⟨rfl, rfl⟩
  obtain ⟨own, Z, rfl, hP, hB, hH⟩ := hS2
  have e1 : M3.get M.next = some (.cells [.int 3 vk, .int 3 vn] false) := (b1.trans b2).get _ _ id (by simp only [go_sem, reduceCtorEq, Nat.reduceEqDiff, Nat.reduceAdd, Nat.reduceMul, Nat.reduceLeDiff, Nat.reduceSub, Nat.reduceLT, Nat.reduceBEq, Nat.reduceBNe, Int.reduceBEq, Int.reduceBNe, Int.reduceLT, Int.reduceLE, Int.reduceAdd, Int.reduceEq, Int.reduceNe, beq_self_eq_true, bne_self_eq_false, decide_true, decide_false, Bool.not_true, Bool.not_false, Bool.false_eq_true, false_and, and_false, not_true_eq_false, not_false_eq_true])
  simp only [go_sem, reduceCtorEq, Nat.reduceEqDiff, Nat.reduceAdd, Nat.reduceMul, Nat.reduceLeDiff, Nat.reduceSub, Nat.reduceLT, Nat.reduceBEq, Nat.reduceBNe, Int.reduceBEq, Int.reduceBNe, Int.reduceLT, Int.reduceLE, Int.reduceAdd, Int.reduceEq, Int.reduceNe, beq_self_eq_true, bne_self_eq_false, decide_true, decide_false, Bool.not_true, Bool.not_false, Bool.false_eq_true, false_and, and_false, not_true_eq_false, not_false_eq_true, hB.spc, e1]
  refine (push_ok T.h68 T.h75 T.h77 T.h81 T.h85 T.h115 T.h117 T.h143 (v := ⟨vk, vn⟩) hH h.obj (by rw [h.kind]; decide) hv (by have := h.len; simp only [most]; omega)).use ?_
  rintro r M4 hw4 ⟨rfl, hH4, b4⟩
  simp only [go_sem, reduceCtorEq, Nat.reduceEqDiff, Nat.reduceAdd, Nat.reduceMul, Nat.reduceLeDiff, Nat.reduceSub, Nat.reduceLT, Nat.reduceBEq, Nat.reduceBNe, Int.reduceBEq, Int.reduceBNe, Int.reduceLT, Int.reduceLE, Int.reduceAdd, Int.reduceEq, Int.reduceNe, beq_self_eq_true, bne_self_eq_false, decide_true, decide_false, Bool.not_true, Bool.not_false, Bool.false_eq_true, false_and, and_false, not_true_eq_false, not_false_eq_true]
  obtain ⟨s1, s2⟩ := StackIs.heap hP hB hH4 b4
  exact ⟨s1, (((b0.trans b1).trans b2).any _).trans s2, fun hp0 h0 => by
    have e := h0.same ((b0.trans b1).trans b2) hB.spc
    subst e
    exact ⟨_, _, b4.get _ _ (fun e => e (.inr (by rw [hB.spo]; simp))) hB.spc⟩⟩
end Go.Proofs.Ythpnhdopheofcaa

end
section
namespace Go.Proofs.Ythpnhdopheofcaa
open Go.Dx
variable {tbl : Nat → Option CFunc}

theorem over_spec (T : SkT tbl) {M : Mem} {sp : Pos} {P : Pos → Prop} {co : Int} {calls : List Fr} {G : Hp} {o : Ob} (hS : StackIs M sp P co calls G) (ho : G.objs co = some o) (hl : o.slots.length ≤ 2 ^ 30) {sb mb : Pos} {m : Int} {b1 b2 : Bool} (hs : M.get sb = some (.cells [.ptr sp 0] b1)) (hm : M.get mb = some (.cells [.int 3 m] b2)) :
    CallW tbl 116 (.cons (.ptr sb 0) (.cons (.ptr mb 0) .nil)) M fun r M' => r = .ret (.bool (decide (m < o.slots.length))) ∧ But (fun _ => False) M M' := by
  refine CallW.intro T.h116 rfl (fr := .nod (.val .leaf (.ptr sb 0) .leaf) (.val .leaf (.ptr mb 0) .leaf)) rfl ?_
  simp only [go_sem, reduceCtorEq, Nat.reduceEqDiff, Nat.reduceAdd, Nat.reduceMul, Nat.reduceLeDiff, Nat.reduceSub, Nat.reduceLT, Nat.reduceBEq, Nat.reduceBNe, Int.reduceBEq, Int.reduceBNe, Int.reduceLT, Int.reduceLE, Int.reduceAdd, Int.reduceEq, Int.reduceNe, beq_self_eq_true, bne_self_eq_false, decide_true, decide_false, Bool.not_true, Bool.not_false, Bool.false_eq_true, false_and, and_false, not_true_eq_false, not_false_eq_true, cf116, hs]
  refine (slots_spec T.h25 T.h69 T.h72 T.h75 T.h76 hS ho (by simp only [most]; omega)).use ?_
  rintro r M1 hw1 ⟨rfl, b⟩
  have hm1 := b.get _ _ id hm
  simp only [go_sem, reduceCtorEq, Nat.reduceEqDiff, Nat.reduceAdd, Nat.reduceMul, Nat.reduceLeDiff, Nat.reduceSub, Nat.reduceLT, Nat.reduceBEq, Nat.reduceBNe, Int.reduceBEq, Int.reduceBNe, Int.reduceLT, Int.reduceLE, Int.reduceAdd, Int.reduceEq, Int.reduceNe, beq_self_eq_true, bne_self_eq_false, decide_true, decide_false, Bool.not_true, Bool.not_false, Bool.false_eq_true, false_and, and_false, not_true_eq_false, not_false_eq_true, hm1, hm]
  first | exact b | exact ⟨rfl, b⟩
end Go.Proofs.Ythpnhdopheofcaa

end
section
namespace Go.Proofs.Ythpnhdopheofcaa
open Go.Dx
variable {tbl : Nat → Option CFunc}

theorem HeapIs.wide {M M' : Mem} {hp : Pos} {P : Pos → Prop} {G : Hp} (h : HeapIs M hp P G) (hb : But (fun _ => False) M M') {q : Pos} (h1 : M.next.num ≤ q.num) (h2 : q.num < M'.next.num) : HeapIs M' hp (fun p => P p ∨ p = q) G := by
  obtain ⟨own, Y, k1, k2, k3⟩ := h
  refine ⟨own, Y, k1, fun p hp => ?_, k3.quiet hb⟩
  rcases hp with hp | rfl
  · exact ⟨(k2 p hp).1, Nat.lt_of_lt_of_le (k2 p hp).2 hb.next⟩
  · refine ⟨?_, h2⟩
    cases ho : own p with
    | none => rfl
    | some s => have := k3.inn p (by rw [ho]; simp); omega
/-- A new place is not the stack's. -/
theorem StackIs.wide {M M' : Mem} {sp : Pos} {P : Pos → Prop} {co : Int} {calls : List Fr} {G : Hp} (h : StackIs M sp P co calls G) (hb : But (fun _ => False) M M') {q : Pos} (k1 : M.next.num ≤ q.num) (k2 : q.num < M'.next.num) : StackIs M' sp (fun p => P p ∨ p = q) co calls G := by
  obtain ⟨own, Z, h1, h2, h3, h4⟩ := h
  have hno : own q = none := by
    cases ho : own q with
    | none => rfl
    | some t => have := h3.inn q (by rw [ho]; simp); omega
  refine ⟨own, Z, h1, ?_, h3.keep (hb.any _), (h4.wide hb k1 k2).less ?_⟩
  · rintro p (hp | rfl)
    · exact ⟨(h2 p hp).1, Nat.lt_of_lt_of_le (h2 p hp).2 hb.next⟩
    · exact ⟨hno, k2⟩
  · rintro p ((hp | rfl) | hp)
    · exact .inl (.inl hp)
    · exact .inr rfl
    · exact .inl (.inr hp)
theorem StackIs.more {M : Mem} {sp : Pos} {P : Pos → Prop} {co : Int} {calls : List Fr} {G : Hp} (h : StackIs M sp P co calls G) (hw : M.wf) (b : MB) : StackIs (M.new b) sp (fun p => P p ∨ p = M.next) co calls G :=
  h.wide (But.new hw b) (Nat.le_refl _) (by show M.next.num < M.next.succ.num; rw [Pos.num_succ]; omega)
theorem StackIs.less {M : Mem} {sp : Pos} {P Q : Pos → Prop} {co : Int} {calls : List Fr} {G : Hp} (h : StackIs M sp P co calls G) (hq : ∀ p, Q p → P p) : StackIs M sp Q co calls G := by
  obtain ⟨own, Z, h1, h2, h3, h4⟩ := h
  exact ⟨own, Z, h1, fun p hp => h2 p (hq p hp), h3, h4.less fun p hp => hp.elim (fun e => .inl (hq p e)) .inr⟩

/-! A stack of one function. -/
def fV : Vl := ⟨7, 1⟩
def cnt : List Vl → Int
  | [] => 0
  | v :: l => (if v = fV then 1 else 0) + cnt l
theorem cnt_nonneg (l : List Vl) : 0 ≤ cnt l := by
  induction l with
  | nil => exact Int.le_refl _
  | cons v l ih => simp only [cnt]; split <;> omega
theorem cnt_app (l r : List Vl) : cnt (l ++ r) = cnt l + cnt r := by
  induction l with
  | nil => simp [cnt]
  | cons v l ih => simp only [List.cons_append, cnt, ih]; omega
theorem cnt_le (l : List Vl) : cnt l ≤ l.length := by
  induction l with
  | nil => exact Int.le_refl _
  | cons v l ih => simp only [cnt, List.length_cons]; split <;> omega

structure SW (G : Hp) (c : Int) (s : List Vl) : Prop where
  o1 : ∃ o, G.objs 1 = some o ∧ o.kind = 7 ∧ o.count = c
  o2 : ∃ o, G.objs 2 = some o ∧ o.kind = 8 ∧ o.slots = s
  buf : G.buffer = [] ∨ G.buffer = [1]
  ok : ∀ v ∈ s, v = fV ∨ v.k < 5
  more : cnt s < c
  most : c < 2 ^ 61
  flat : ∀ o, G.objs 1 = some o → o.slots = []

theorem refV_f : refV fV = true := by decide
theorem refV_no {v : Vl} (h : v.k < 5) : refV v = false := by
  simp only [refV, Bool.and_eq_false_iff, decide_eq_false_iff_not]
  exact .inl (by omega)

/-- One value is dropped. -/
theorem drop_one (T : SkT tbl) {M : Mem} {hp : Pos} {P : Pos → Prop} {G : Hp} {c : Int} {s : List Vl} {v : Vl} (hH : HeapIs M hp P G) (hW : SW G c s) (hv : v = fV ∨ v.k < 5) (hc : cnt (s ++ [v]) < c) :
    CallW tbl 38 (.cons (.ptr hp 0) (.cons (VlA v) .nil)) M fun r M' => r = .ret (.int 3 0) ∧ (∃ G', HeapIs M' hp P G' ∧ SW G' (c - cnt [v]) s) ∧ But (fun p => ¬ P p) M M' := by
  by_cases hf : v = fV
  · subst hf
    obtain ⟨o, e1, e2, e3⟩ := hW.o1
    obtain ⟨o', e4, e5, e6⟩ := hW.o2
    have h1 := cnt_app s [fV]
    have h2 : cnt [fV] = 1 := by decide
    have h3 := cnt_nonneg s
    have h4 := hW.most
    have hbuf : G.buffer.length < 2 ^ 30 := by rcases hW.buf with e | e <;> simp [e]
    refine (drop_more T.h38 T.h71 T.h77 T.h81 T.h83 T.h85 T.h115 T.h117 T.h120 T.h143 (v := fV) hH refV_f e1 e2 (by rw [e2]; decide) (by omega) hbuf).mono ?_
    rintro r M' ⟨rfl, hH', b⟩
    refine ⟨rfl, ⟨_, hH', ?_⟩, b⟩
    refine ⟨⟨{ o with count := o.count - 1 }, by simp [upd, fV], e2, by simp only [h2, e3]⟩, ⟨o', by simp [upd, fV, e4], e5, e6⟩, ?_, hW.ok, by omega, by omega, fun x hx => by simp [upd, fV] at hx; subst hx; exact hW.flat o e1⟩
    rcases hW.buf with e | e <;> simp [e, fV]
  · have hk := hv.resolve_left hf
    refine (drop_no T.h38 T.h71 T.h77 T.h81 T.h83 T.h85 T.h115 T.h117 T.h120 T.h143 hH (refV_no hk)).mono ?_
    rintro r M' ⟨rfl, b⟩
    have h2 : cnt [v] = 0 := by simp [cnt, hf]
    exact ⟨rfl, ⟨G, hH.quiet b, by rw [h2, Int.sub_zero]; exact hW⟩, b.any _⟩

/-- One value is taken from the stack's end. -/
theorem SW.pop {G : Hp} {c : Int} {s : List Vl} {v : Vl} (hW : SW G c (s ++ [v])) {o : Ob} (ho : G.objs 2 = some o) : SW { G with objs := upd G.objs 2 (some { o with slots := s }) } c s := by
  obtain ⟨o', e1, e2, e3⟩ := hW.o2
  rw [ho] at e1
  cases e1
  obtain ⟨p, e4⟩ := hW.o1
  have h1 := cnt_app s [v]
  have h3 := cnt_nonneg [v]
  have h5 := hW.more
  exact ⟨⟨p, by simp [upd, e4.1], e4.2⟩, ⟨{ o with slots := s }, by simp [upd, fV], e2, rfl⟩, hW.buf, fun v hv => hW.ok v (List.mem_append_left _ hv), by omega, hW.most, fun x hx => hW.flat x (by simpa [upd] using hx)⟩
theorem SW.push {G : Hp} {c : Int} {s : List Vl} {v : Vl} (hW : SW G c s) {o : Ob} (ho : G.objs 2 = some o) (hv : v = fV ∨ v.k < 5) (hc : cnt (s ++ [v]) < c) : SW { G with objs := upd G.objs 2 (some { o with slots := o.slots ++ [v] }) } c (s ++ [v]) := by
  obtain ⟨o', e1, e2, e3⟩ := hW.o2
  rw [ho] at e1
  cases e1
  obtain ⟨p, e4⟩ := hW.o1
  exact ⟨⟨p, by simp [upd, e4.1], e4.2⟩, ⟨{ o with slots := o.slots ++ [v] }, by simp [upd, fV], e2, by rw [e3]⟩, hW.buf, fun w hw => (List.mem_append.1 hw).elim (hW.ok w) fun h => by rw [List.mem_singleton.1 h]; exact hv, hc, hW.most, fun x hx => hW.flat x (by simpa [upd] using hx)⟩
end Go.Proofs.Ythpnhdopheofcaa

end
section
namespace Go.Proofs.Ythpnhdopheofcaa
open Go.Dx
variable {tbl : Nat → Option CFunc}

theorem snoc {α : Type} {l : List α} {n : Nat} (h : n < l.length) : ∃ v, l = l.take (l.length - 1) ++ [v] := by
  have h1 : l.length - 1 < l.length := by omega
  refine ⟨l[l.length - 1], ?_⟩
  have := List.take_succ_eq_append_getElem h1
  rw [← this]
  have e : l.length - 1 + 1 = l.length := by omega
  rw [e, List.take_length]

theorem down_spec (T : SkT tbl) {M : Mem} {sp : Pos} {P : Pos → Prop} {calls : List Fr} {G : Hp} {c : Int} {s : List Vl} {m : Nat} (hS : StackIs M sp P 2 calls G) (hW : SW G c s) (hl : s.length ≤ 2 ^ 30) (hm : m < 2 ^ 31) :
    CallW tbl 73 (.cons (.ptr sp 0) (.cons (.int 3 m) .nil)) M fun r M' => r = .ret (.tuple .nil) ∧ (∃ G', StackIs M' sp P 2 calls G' ∧ SW G' (c - cnt (s.drop m)) (s.take m)) ∧ But (fun p => ¬ P p) M M' ∧ M'.get sp = M.get sp := by
  refine CallW.wf fun hw => ?_
  refine CallW.intro T.h73 rfl (fr := .nod (.val .leaf (.ptr sp 0) .leaf) (.val .leaf (.int 3 m) .leaf)) rfl ?_
  simp only [go_sem, reduceCtorEq, Nat.reduceEqDiff, Nat.reduceAdd, Nat.reduceMul, Nat.reduceLeDiff, Nat.reduceSub, Nat.reduceLT, Nat.reduceBEq, Nat.reduceBNe, Int.reduceBEq, Int.reduceBNe, Int.reduceLT, Int.reduceLE, Int.reduceAdd, Int.reduceEq, Int.reduceNe, beq_self_eq_true, bne_self_eq_false, decide_true, decide_false, Bool.not_true, Bool.not_false, Bool.false_eq_true, false_and, and_false, not_true_eq_false, not_false_eq_true, cf73]
  have w1 := hw.new (.cells [.ptr sp 0] false)
  have w2 := w1.new (.cells [.int 3 m] false)
  have hS1 := (hS.more hw (.cells [.ptr sp 0] false)).more w1 (.cells [.int 3 m] false)
  have hb0 := (But.new (S := fun p => ¬ P p) hw (.cells [.ptr sp 0] false)).trans (But.new w1 (.cells [.int 3 m] false))
  have x1 : ((M.new (.cells [.ptr sp 0] false)).new (.cells [.int 3 m] false)).get M.next = some (.cells [.ptr sp 0] false) := by simp only [go_sem, reduceCtorEq, Nat.reduceEqDiff, Nat.reduceAdd, Nat.reduceMul, Nat.reduceLeDiff, Nat.reduceSub, Nat.reduceLT, Nat.reduceBEq, Nat.reduceBNe, Int.reduceBEq, Int.reduceBNe, Int.reduceLT, Int.reduceLE, Int.reduceAdd, Int.reduceEq, Int.reduceNe, beq_self_eq_true, bne_self_eq_false, decide_true, decide_false, Bool.not_true, Bool.not_false, Bool.false_eq_true, false_and, and_false, not_true_eq_false, not_false_eq_true]
  have x2 : ((M.new (.cells [.ptr sp 0] false)).new (.cells [.int 3 m] false)).get M.next.succ = some (.cells [.int 3 m] false) := by simp only [go_sem, reduceCtorEq, Nat.reduceEqDiff, Nat.reduceAdd, Nat.reduceMul, Nat.reduceLeDiff, Nat.reduceSub, Nat.reduceLT, Nat.reduceBEq, Nat.reduceBNe, Int.reduceBEq, Int.reduceBNe, Int.reduceLT, Int.reduceLE, Int.reduceAdd, Int.reduceEq, Int.reduceNe, beq_self_eq_true, bne_self_eq_false, decide_true, decide_false, Bool.not_true, Bool.not_false, Bool.false_eq_true, false_and, and_false, not_true_eq_false, not_false_eq_true]
  have hnn : (M.new (.cells [.ptr sp 0] false)).next = M.next.succ := rfl
  rw [hnn] at hS1
  have hsp0 : ∃ x, M.get sp = some x := by
    obtain ⟨own, Z, rfl, h2, h3, h4⟩ := hS
    exact ⟨_, h3.spc⟩
  obtain ⟨xs, hxs⟩ := hsp0
  have hsp1 : ((M.new (.cells [.ptr sp 0] false)).new (.cells [.int 3 m] false)).get sp = some xs := by
    have h1 := hw.ne hxs
    have h2 : (sp = (M.new (.cells [.ptr sp 0] false)).next) = False := eq_false fun e => by have := hw _ _ hxs; rw [e, hnn, Pos.num_succ] at this; omega
    simp only [go_sem, reduceCtorEq, Nat.reduceEqDiff, Nat.reduceAdd, Nat.reduceMul, Nat.reduceLeDiff, Nat.reduceSub, Nat.reduceLT, Nat.reduceBEq, Nat.reduceBNe, Int.reduceBEq, Int.reduceBNe, Int.reduceLT, Int.reduceLE, Int.reduceAdd, Int.reduceEq, Int.reduceNe, beq_self_eq_true, bne_self_eq_false, decide_true, decide_false, Bool.not_true, Bool.not_false, Bool.false_eq_true, false_and, and_false, not_true_eq_false, not_false_eq_true, hxs, h1, hnn, h2]
    rw [hnn] at h2
    rw [if_neg (of_eq_false h2)]
  rw [hxs]
  generalize hb : M.next = b at *
  generalize hb2 : b.succ = b2 at *
  generalize hM1 : (M.new (.cells [.ptr sp 0] false)).new (.cells [.int 3 m] false) = M1 at *
  refine loop_wp (I := fun n fr M' => ∃ G', n ≤ s.length ∧ (m ≤ n ∨ n = s.length) ∧ M'.wf ∧ StackIs M' sp (fun p => (P p ∨ p = b) ∨ p = b2) 2 calls G' ∧ SW G' (c - cnt (s.drop n)) (s.take n) ∧ But (fun p => ¬ ((P p ∨ p = b) ∨ p = b2)) M1 M' ∧ M'.get sp = some xs ∧ fr.get (.o (.o .h)) = some (.ptr b 0) ∧ fr.get (.o (.i .h)) = some (.func (.func 116) .nil (.cons (.ptr b 0) (.cons (.ptr b2 0) .nil)))) (n := s.length) ?_ ?_
  · exact ⟨G, Nat.le_refl _, .inr rfl, w2, hS1, by rw [List.drop_length, List.take_length]; simpa [cnt] using hW, But.refl _ _, hsp1, rfl, rfl⟩
  · rintro n fr M' ⟨G', i1, i2, i3, i4, i5, i6, i7, f1, f2⟩
    have y1 := i6.get _ _ (fun e => e (.inl (.inr rfl))) x1
    have y2 := i6.get _ _ (fun e => e (.inr rfl)) x2
    obtain ⟨o, e1, e2, e3⟩ := i5.o2
    have e4 : o.slots.length = n := by rw [e3, List.length_take]; omega
    simp only [go_sem, reduceCtorEq, Nat.reduceEqDiff, Nat.reduceAdd, Nat.reduceMul, Nat.reduceLeDiff, Nat.reduceSub, Nat.reduceLT, Nat.reduceBEq, Nat.reduceBNe, Int.reduceBEq, Int.reduceBNe, Int.reduceLT, Int.reduceLE, Int.reduceAdd, Int.reduceEq, Int.reduceNe, beq_self_eq_true, bne_self_eq_false, decide_true, decide_false, Bool.not_true, Bool.not_false, Bool.false_eq_true, false_and, and_false, not_true_eq_false, not_false_eq_true, f1, f2]
    refine (over_spec T i4 e1 (by omega) y1 y2).use ?_
    rintro r M2 hw2 ⟨rfl, b2'⟩
    have i4' := i4.quiet b2'
    have z1 := b2'.get _ _ id y1
    have i7' := b2'.get _ _ id i7
    rw [e4]
    by_cases hlt : m < n
    · have g : decide ((m : Int) < n) = true := by simp; omega
      obtain ⟨v, hv⟩ : ∃ v, s.take n = s.take (n - 1) ++ [v] := by
        obtain ⟨v, hv⟩ := snoc (l := s.take n) (n := 0) (by rw [List.length_take]; omega)
        refine ⟨v, ?_⟩
        rw [List.length_take, Nat.min_eq_left i1, List.take_take, Nat.min_eq_left (by omega)] at hv
        exact hv
      rw [hv] at e3 i5
      simp only [go_sem, reduceCtorEq, Nat.reduceEqDiff, Nat.reduceAdd, Nat.reduceMul, Nat.reduceLeDiff, Nat.reduceSub, Nat.reduceLT, Nat.reduceBEq, Nat.reduceBNe, Int.reduceBEq, Int.reduceBNe, Int.reduceLT, Int.reduceLE, Int.reduceAdd, Int.reduceEq, Int.reduceNe, beq_self_eq_true, bne_self_eq_false, decide_true, decide_false, Bool.not_true, Bool.not_false, Bool.false_eq_true, false_and, and_false, not_true_eq_false, not_false_eq_true, g, f1, z1]
      have i4r := i4'.wide (But_reserve M2 _) (Nat.le_refl _) (by show M2.next.num < M2.next.succ.num; rw [Pos.num_succ]; omega)
      refine (n_spec T.h69 i4r).use ?_
      rintro r M3 hw3 ⟨rfl, rfl⟩
      obtain ⟨own, Z, rfl, hP, hB, hH⟩ := i4r
      have hspc : M2.get Z.sp = some (.cells [.ptr Z.hp 0, .int 3 8, .int 3 2, Z.cv] false) := hB.spc
      simp only [go_sem, reduceCtorEq, Nat.reduceEqDiff, Nat.reduceAdd, Nat.reduceMul, Nat.reduceLeDiff, Nat.reduceSub, Nat.reduceLT, Nat.reduceBEq, Nat.reduceBNe, Int.reduceBEq, Int.reduceBNe, Int.reduceLT, Int.reduceLE, Int.reduceAdd, Int.reduceEq, Int.reduceNe, beq_self_eq_true, bne_self_eq_false, decide_true, decide_false, Bool.not_true, Bool.not_false, Bool.false_eq_true, false_and, and_false, not_true_eq_false, not_false_eq_true, f1, z1, hspc]
      refine (pop_some T.h37 T.h75 T.h80 T.h81 T.h85 hH e1 e3 (by simp only [most]; omega)).use ?_
      rintro r M4 hw4 ⟨rfl, hH4, b4⟩
      obtain ⟨s4, b4'⟩ := StackIs.heap hP hB hH4 b4
      have z4 : M4.get b = some (.cells [.ptr Z.sp 0] false) := b4'.get _ _ (fun e => e (.inl (.inl (.inr rfl)))) z1
      have hq : (M2.next.num < M4.next.num) = True := eq_true (by have := b4.next; have e : M2.next.succ.num ≤ M4.next.num := this; rw [Pos.num_succ] at e; omega)
      have ne1 := hw2.ne z1
      have ne2 := hw2.ne hspc
      have hsp4 : M4.get Z.sp = some (.cells [.ptr Z.hp 0, .int 3 8, .int 3 2, Z.cv] false) := b4.get _ _ (fun e => e (.inr (by rw [hB.spo]; simp))) hspc
      have hok := i5.ok v (by simp)
      have hmo := i5.more
      have i5' := i5.pop e1
      obtain ⟨vk, vn⟩ := v
      have bp : But (fun p => p = M2.next) M4 ((M4.put M2.next (.cells [.int 3 0, .int 3 0] false)).put M2.next (.cells [.int 3 vk, .int 3 vn] false)) :=
        (But.put (S := fun p => p = M2.next) (p := M2.next) _ rfl _).trans (But.put (S := fun p => p = M2.next) (p := M2.next) _ rfl _)
      have s5 := s4.frame (bp.mono fun p hp => .inr hp)
      simp only [go_sem, reduceCtorEq, Nat.reduceEqDiff, Nat.reduceAdd, Nat.reduceMul, Nat.reduceLeDiff, Nat.reduceSub, Nat.reduceLT, Nat.reduceBEq, Nat.reduceBNe, Int.reduceBEq, Int.reduceBNe, Int.reduceLT, Int.reduceLE, Int.reduceAdd, Int.reduceEq, Int.reduceNe, beq_self_eq_true, bne_self_eq_false, decide_true, decide_false, Bool.not_true, Bool.not_false, Bool.false_eq_true, false_and, and_false, not_true_eq_false, not_false_eq_true, f1, z4, VlA, hq, ne1, ne2, hsp4]
      obtain ⟨own', Z', hz, hP', hB', hH'⟩ := s5
      have hzz : Z'.hp = Z.hp := by
        have h1 := hB'.spc
        simp only [go_sem, reduceCtorEq, Nat.reduceEqDiff, Nat.reduceAdd, Nat.reduceMul, Nat.reduceLeDiff, Nat.reduceSub, Nat.reduceLT, Nat.reduceBEq, Nat.reduceBNe, Int.reduceBEq, Int.reduceBNe, Int.reduceLT, Int.reduceLE, Int.reduceAdd, Int.reduceEq, Int.reduceNe, beq_self_eq_true, bne_self_eq_false, decide_true, decide_false, Bool.not_true, Bool.not_false, Bool.false_eq_true, false_and, and_false, not_true_eq_false, not_false_eq_true, hz, ne2, hsp4] at h1
        simp only [Option.some.injEq, MB.cells.injEq, List.cons.injEq, AV.ptr.injEq] at h1
        exact h1.1.1.1.symm
      rw [hzz] at hH'
      refine (drop_one T (v := ⟨vk, vn⟩) hH' i5' hok hmo).use ?_
      rintro r M6 hw6 ⟨rfl, ⟨G6, hH6, hW6⟩, b6⟩
      rw [← hzz] at hH6
      obtain ⟨s6, b6'⟩ := StackIs.heap hP' hB' hH6 b6
      have hd : s.drop (n - 1) = ⟨vk, vn⟩ :: s.drop n := by
        have h1 := List.take_append_drop n s
        have h2 := List.take_append_drop (n - 1) s
        rw [hv, List.append_assoc] at h1
        exact (List.append_cancel_left (h1.trans h2.symm)).symm
      have hcn : cnt (s.drop (n - 1)) = cnt [⟨vk, vn⟩] + cnt (s.drop n) := by rw [hd]; simp only [cnt]; omega
      simp only [go_sem, reduceCtorEq, Nat.reduceEqDiff, Nat.reduceAdd, Nat.reduceMul, Nat.reduceLeDiff, Nat.reduceSub, Nat.reduceLT, Nat.reduceBEq, Nat.reduceBNe, Int.reduceBEq, Int.reduceBNe, Int.reduceLT, Int.reduceLE, Int.reduceAdd, Int.reduceEq, Int.reduceNe, beq_self_eq_true, bne_self_eq_false, decide_true, decide_false, Bool.not_true, Bool.not_false, Bool.false_eq_true, false_and, and_false, not_true_eq_false, not_false_eq_true]
      refine ⟨n - 1, by omega, G6, by omega, .inl (by omega), hw6, (hz ▸ s6).less fun p hp => .inl hp, ?_, ?_, ?_, ?_, ?_⟩
      · rw [hcn]
        have e : c - cnt (s.drop n) - cnt [⟨vk, vn⟩] = c - (cnt [⟨vk, vn⟩] + cnt (s.drop n)) := by omega
        rw [← e]; exact hW6
      · have hlo : ∀ p, ((P p ∨ p = b) ∨ p = b2) → p.num < M'.next.num := fun p hp => by obtain ⟨_, _, _, h2, _⟩ := i4; exact (h2 p hp).2
        have t1 := i6.trans (((b2'.trans (But_reserve M2 _)).any _).trans (b4'.mono fun p hn hp => hn (.inl hp)))
        have t2 := t1.trans (bp.mono fun p e hp => by subst e; have := hlo _ hp; have := b2'.next; omega)
        exact t2.trans (b6'.mono fun p hn hp => hn (.inl hp))
      · have e0 : Z.sp ≠ M2.next := of_eq_false ne2
        have e1 : some xs = _ := i7'.symm.trans hspc
        have e5 : ((M4.put M2.next (.cells [.int 3 0, .int 3 0] false)).put M2.next (.cells [.int 3 vk, .int 3 vn] false)).get Z.sp = some (.cells [.ptr Z.hp 0, .int 3 8, .int 3 2, Z.cv] false) := by simp [Mem.put, e0, hsp4]
        rw [e1]
        exact b6.get _ _ (fun e => e (.inr (by rw [← hz, hB'.spo]; simp))) e5
      · simp [Tr.get_set, f1]
      · simp [Tr.get_set, f2]
    · have g : decide ((m : Int) < n) = false := by simp; omega
      simp only [go_sem, reduceCtorEq, Nat.reduceEqDiff, Nat.reduceAdd, Nat.reduceMul, Nat.reduceLeDiff, Nat.reduceSub, Nat.reduceLT, Nat.reduceBEq, Nat.reduceBNe, Int.reduceBEq, Int.reduceBNe, Int.reduceLT, Int.reduceLE, Int.reduceAdd, Int.reduceEq, Int.reduceNe, beq_self_eq_true, bne_self_eq_false, decide_true, decide_false, Bool.not_true, Bool.not_false, Bool.false_eq_true, false_and, and_false, not_true_eq_false, not_false_eq_true, g]
      refine ⟨⟨G', i4'.less fun p hp => .inl (.inl hp), ?_⟩, hb0.trans (((i6.trans (b2'.any _))).mono fun p hn hp => hn (.inl (.inl hp))), i7'⟩
      rcases i2 with h | h
      · have : n = m := by omega
        subst this
        exact i5
      · subst h
        rw [List.drop_length, List.take_length] at i5
        rw [List.drop_eq_nil_of_le (by omega), List.take_of_length_le (by omega)]
        exact i5
end Go.Proofs.Ythpnhdopheofcaa

end
section
namespace Go.Proofs.Ythpnhdopheofcaa
open Go.Dx
variable {tbl : Nat → Option CFunc}

/-- What the stack did is not the heap's. -/
theorem StackIs.step {M M' : Mem} {own own' : Own} {t : Tag} {Z Z' : SkY} {P : Pos → Prop} {co : Int} {calls' : List Fr} {G : Hp} (hP : ∀ p, P p → own p = none ∧ p.num < M.next.num) (hH : HeapIs M Z.hp (fun p => P p ∨ own p ≠ none) G) (u : OwnUp t M M' own own') (hb : But (fun p => own p ≠ none) M M')
    (hB : SkB M' own' Z' co calls') (hz : Z'.hp = Z.hp) : StackIs M' Z'.sp P co calls' G ∧ But (fun p => ¬ P p) M M' := by
  refine ⟨⟨own', Z', rfl, fun p hp => ⟨u.none_ (hP p hp).1 (hP p hp).2, Nat.lt_of_lt_of_le (hP p hp).2 hb.next⟩, hB, ?_⟩, hb.mono fun p h1 h2 => h1 (hP p h2).1⟩
  obtain ⟨own0, Y, k1, k2, k3⟩ := hH
  refine ⟨own0, Y, by rw [k1, hz], ?_, k3.keep (hb.mono fun p hp => (k2 p (.inr hp)).1)⟩
  have old : ∀ p, (P p ∨ own p ≠ none) → own0 p = none ∧ p.num < M'.next.num := fun p hp => ⟨(k2 p hp).1, Nat.lt_of_lt_of_le (k2 p hp).2 hb.next⟩
  rintro p (hp | hp)
  · exact old p (.inl hp)
  · rcases u p with e | ⟨e1, e2, e3, e4⟩
    · rw [e] at hp; exact old p (.inr hp)
    · refine ⟨?_, e4⟩
      cases ho : own0 p with
      | none => rfl
      | some s => have := k3.inn p (by rw [ho]; simp); omega

theorem frL_set (cs : List Fr) (f f' : Fr) (tv : Nat → AV) (v : AV) : (FrL (cs ++ [f]) tv).set cs.length (FrR f' v) = FrL (cs ++ [f']) (fun i => if i = cs.length then v else tv i) := by
  apply List.ext_getElem?
  intro i
  by_cases hi : i < cs.length + 1
  · have h1 : i < (cs ++ [f]).length := by simpa using hi
    have h2 : i < (cs ++ [f']).length := by simpa using hi
    rw [frL_at _ _ h2, List.getElem?_set]
    by_cases e : cs.length = i
    · subst e
      simp [frL_len]
    · rw [if_neg e, frL_at _ _ h1]
      have h3 : i < cs.length := by omega
      simp [List.getElem_append_left h3, show ¬ (i = cs.length) from fun x => e x.symm]
  · rw [List.getElem?_eq_none (by simp [frL_len]; omega), List.getElem?_eq_none (by simp [frL_len]; omega)]
theorem frL_snoc (cs : List Fr) (f : Fr) (tv : Nat → AV) (v : AV) : FrL cs tv ++ [FrR f v] = FrL (cs ++ [f]) (fun i => if i = cs.length then v else tv i) := by
  apply List.ext_getElem?
  intro i
  by_cases hi : i < cs.length
  · rw [List.getElem?_append_left (by rw [frL_len]; exact hi), frL_at _ _ hi, frL_at _ _ (by simp; omega)]
    simp [List.getElem_append_left hi, show ¬ (i = cs.length) by omega]
  · by_cases e : i = cs.length
    · subst e
      rw [List.getElem?_append_right (by rw [frL_len]; omega), frL_len, frL_at _ _ (by simp)]
      simp
    · rw [List.getElem?_eq_none (by simp [frL_len]; omega), List.getElem?_eq_none (by simp [frL_len]; omega)]
theorem frL_take (cs : List Fr) (f : Fr) (tv : Nat → AV) : (FrL (cs ++ [f]) tv).take cs.length = FrL cs tv := by
  apply List.ext_getElem?
  intro i
  by_cases hi : i < cs.length
  · rw [List.getElem?_take_of_lt hi, frL_at _ _ (by simp; omega), frL_at _ _ hi]
    simp [List.getElem_append_left hi]
  · rw [List.getElem?_eq_none (by simp [frL_len]; omega), List.getElem?_eq_none (by simp [frL_len]; omega)]

theorem SkB.sub {M : Mem} {own : Own} {Z : SkY} {co : Int} {calls : List Fr} (h : SkB M own Z co calls) {p : Pos} {t : Tag} (ho : own p = some t) (ht : t ≠ (20, 0)) : p ≠ Z.sp := fun e => by rw [e, h.spo] at ho; cases ho; exact ht rfl

/-- The innermost call's row is written. -/
theorem SkB.row {M M1 : Mem} {own own1 : Own} {Z : SkY} {co : Int} {cs : List Fr} {f f' : Fr} (h : SkB M own Z co (cs ++ [f])) (u : OwnUp (22, (cs.length : Int)) M M1 own own1) (hb : But (fun p => own p = some (22, (cs.length : Int))) M M1)
    {v : AV} (hs : SlO M1 own1 (22, (cs.length : Int)) v 2 (PairL f'.tries)) {q : Pos} {b : MB} (hq : own1 q = some (21, 0)) (hc : SlO (M1.put q b) own1 (21, 0) Z.cv 3 (FrL (cs ++ [f']) (fun i => if i = cs.length then v else Z.tv i))) :
    SkB (M1.put q b) own1 { Z with tv := fun i => if i = cs.length then v else Z.tv i } co (cs ++ [f']) := by
  have kp : ∀ p c t, own1 p = some t → t ≠ (21, 0) → M1.get p = some c → (M1.put q b).get p = some c := fun p c t ho ht hp => by
    show (if p = q then _ else M1.get p) = _
    rw [if_neg fun e => by rw [e, hq] at ho; cases ho; exact ht rfl]
    exact hp
  have k0 : ∀ p c t, own p = some t → t ≠ (22, (cs.length : Int)) → M.get p = some c → M1.get p = some c := fun p c t ho ht hp => hb.get p c (fun e => ht (by rw [ho] at e; exact Option.some.inj e)) hp
  refine ⟨u.in_ h.inn hb.next, u.old h.spo, kp _ _ _ (u.old h.spo) (by simp) (k0 _ _ _ h.spo (by simp) h.spc), hc, fun i hi => ?_⟩
  by_cases e : i = cs.length
  · subst e
    simp only [if_true]
    have e2 : (cs ++ [f'])[cs.length]'hi = f' := by simp
    rw [e2]
    exact hs.keep (fun p c ho hp => kp p c _ ho (by simp) hp) fun _ h => h
  · have hi' : i < cs.length := by simp at hi; omega
    simp only [if_neg e]
    have e2 : (cs ++ [f'])[i]'hi = cs[i] := by rw [List.getElem_append_left hi']
    have e3 : (cs ++ [f])[i]'(by simp; omega) = cs[i] := by rw [List.getElem_append_left hi']
    rw [e2]
    have := h.try_ i (by simp; omega)
    rw [e3] at this
    refine this.keep (fun p c ho hp => ?_) fun p ho => u.old ho
    exact kp p c _ (u.old ho) (by simp) (k0 p c _ ho (by simp; omega) hp)

/-- The calls are others. -/
theorem SkB.calls {M M1 : Mem} {own own1 : Own} {Z : SkY} {co : Int} {calls calls' : List Fr} (h : SkB M own Z co calls) (u : OwnUp (21, 0) M M1 own own1) (hb : But (fun p => own p = some (21, 0)) M M1) {v : AV} {tv : Nat → AV}
    (hs : SlO M1 own1 (21, 0) v 3 (FrL calls' tv)) (ht : ∀ i (hi : i < calls'.length), (∃ (k : i < calls.length), tv i = Z.tv i ∧ calls'[i] = calls[i]) ∨ (tv i = .nilslice ∧ calls'[i].tries = [])) {b : MB} (hbb : b = .cells [.ptr Z.hp 0, .int 3 8, .int 3 co, v] false) :
    SkB (M1.put Z.sp b) own1 { Z with cv := v, tv := tv } co calls' := by
  have hq := u.old h.spo
  have kp : ∀ p c t, own1 p = some t → t ≠ (20, 0) → M1.get p = some c → (M1.put Z.sp b).get p = some c := fun p c t ho ht hp => by
    show (if p = Z.sp then _ else M1.get p) = _
    rw [if_neg fun e => by rw [e, hq] at ho; cases ho; exact ht rfl]
    exact hp
  refine ⟨u.in_ h.inn hb.next, hq, by subst hbb; simp [Mem.put], hs.keep (fun p c ho hp => kp p c _ ho (by simp) hp) fun _ h => h, fun i hi => ?_⟩
  rcases ht i hi with ⟨k, e1, e2⟩ | ⟨e1, e2⟩
  · show SlO _ _ _ (tv i) _ _
    rw [e1, e2]
    refine (h.try_ i k).keep (fun p c ho hp => kp p c _ (u.old ho) (by simp) (hb.get p c (fun e => by rw [ho] at e; simp at e) hp)) fun p ho => u.old ho
  · show SlO _ _ _ (tv i) _ _
    rw [e1, e2]
    exact SlO.nil _ _ _ _
end Go.Proofs.Ythpnhdopheofcaa

end
section
namespace Go.Proofs.Ythpnhdopheofcaa
open Go.Dx
variable {tbl : Nat → Option CFunc}

/-- Rows of a block that stands alone, appended. -/
theorem slO_pushFrom {M : Mem} {own : Own} {t : Tag} {v : AV} {size : Nat} {L X : List (List AV)} {n c : Nat} {x : List AV} {q : Pos} (h : SlO M own t v size L) (hw : M.wf) (hi : own.in M) (hq : M.get q = some (.cells x false)) (hn : n = X.length) (hxx : x = X.flatten) (hx : ∀ x ∈ X, x.length = size ∧ x.all isCell = true) (hs0 : 0 < size) (hm : L.length + X.length ≤ most) :
    ∃ v' M' own', appO M size v (.slice q 0 n c) = some (v', M') ∧ SlO M' own' t v' size (L ++ X) ∧ OwnUp t M M' own own' ∧ But (fun p => own p = some t) M M' ∧ M'.wf := by
  subst hn hxx
  obtain ⟨v', M', own', h1, h2, h3, h4, h5⟩ := h.append_ hw hi hx hs0 hm
  refine ⟨v', M', own', ?_, h2, h3, h4, h5⟩
  have hsrc : srcM M size X.length (.slice q 0 X.length c) = some X.flatten :=
    (SlIs.made (X := X) (op := false) hq rfl (fun y hy => (hx y hy).1) rfl).src rfl (by simp)
  simp only [appO, lenOf_slice, Option.bind_some, hsrc]
  exact h1

theorem try_spec (T : SkT tbl) {M : Mem} {sp : Pos} {P : Pos → Prop} {co : Int} {cs : List Fr} {f : Fr} {G : Hp} {o : Ob} (h : Good G co cs f o) (hS : StackIs M sp P co (cs ++ [f]) G) {tg : Int} (ht : 0 ≤ tg) (hn : f.tries.length < 2 ^ 30) :
    CallW tbl 17 (.cons (.ptr sp 0) (.cons (.int 3 tg) .nil)) M fun r M' => r = .ret (.int 3 0) ∧ StackIs M' sp P co (cs ++ [{ f with tries := f.tries ++ [((o.slots.length : Int) - f.base - 1, tg)] }]) G ∧ But (fun p => ¬ P p) M M' ∧ ∀ hp, HpOf M sp hp → HpOf M' sp hp := by
  refine CallW.wf fun hw => ?_
  refine CallW.intro T.h17 rfl (fr := .nod (.val .leaf (.ptr sp 0) .leaf) (.val .leaf (.int 3 tg) .leaf)) rfl ?_
  simp only [go_sem, reduceCtorEq, Nat.reduceEqDiff, Nat.reduceAdd, Nat.reduceMul, Nat.reduceLeDiff, Nat.reduceSub, Nat.reduceLT, Nat.reduceBEq, Nat.reduceBNe, Int.reduceBEq, Int.reduceBNe, Int.reduceLT, Int.reduceLE, Int.reduceAdd, Int.reduceEq, Int.reduceNe, beq_self_eq_true, bne_self_eq_false, decide_true, decide_false, Bool.not_true, Bool.not_false, Bool.false_eq_true, false_and, and_false, not_true_eq_false, not_false_eq_true, cf17]
  refine (h.state T hS).use ?_
  rintro r M1 hw1 ⟨rfl, b1⟩
  have g : decide (tg < 0) = false := by simp; omega
  simp only [go_sem, reduceCtorEq, Nat.reduceEqDiff, Nat.reduceAdd, Nat.reduceMul, Nat.reduceLeDiff, Nat.reduceSub, Nat.reduceLT, Nat.reduceBEq, Nat.reduceBNe, Int.reduceBEq, Int.reduceBNe, Int.reduceLT, Int.reduceLE, Int.reduceAdd, Int.reduceEq, Int.reduceNe, beq_self_eq_true, bne_self_eq_false, decide_true, decide_false, Bool.not_true, Bool.not_false, Bool.false_eq_true, false_and, and_false, not_true_eq_false, not_false_eq_true, g]
  have hS1 := hS.quiet b1
  obtain ⟨own, Z, rfl, hP, hB, hH⟩ := hS1
  obtain ⟨p, po, pn, a1, htop, c0, c1, c2, hown⟩ := Good.top T hB h.calls
  refine htop.use ?_
  rintro r M2 hw2 ⟨rfl, rfl⟩
  simp only [go_sem, reduceCtorEq, Nat.reduceEqDiff, Nat.reduceAdd, Nat.reduceMul, Nat.reduceLeDiff, Nat.reduceSub, Nat.reduceLT, Nat.reduceBEq, Nat.reduceBNe, Int.reduceBEq, Int.reduceBNe, Int.reduceLT, Int.reduceLE, Int.reduceAdd, Int.reduceEq, Int.reduceNe, beq_self_eq_true, bne_self_eq_false, decide_true, decide_false, Bool.not_true, Bool.not_false, Bool.false_eq_true, false_and, and_false, not_true_eq_false, not_false_eq_true]
  refine (height_spec T h ((hS.quiet b1).quiet (But_reserve M2 _))).use ?_
  rintro r M3 hw3 ⟨rfl, b3⟩
  have b3' := (But_reserve M2 (fun _ => False)).trans b3
  obtain ⟨q, po2, pn2, a2, htop2, d0, d1, d2, hown2⟩ := Good.top T (hB.keep (b3'.any _)) h.calls
  rw [a1] at a2; cases a2
  have hq : (M2.next.num < M3.next.num) = True := eq_true (by have := b3.next; have e : M2.next.succ.num ≤ M3.next.num := this; rw [Pos.num_succ] at e; omega)
  generalize hht : (o.slots.length : Int) - f.base - 1 = hk at *
  have b4 : But (fun _ => False) M2 (M3.put M2.next (.cells [.int 3 hk, .int 3 tg] false)) := But.fresh hw2 ((b3'.any _).trans (But.put (p := M2.next) _ (.inr (Nat.le_refl _)) _))
  have hw4 : (M3.put M2.next (.cells [.int 3 hk, .int 3 tg] false)).wf := fun p c hp => by
    have hp' : (if p = M2.next then some (MB.cells [.int 3 hk, .int 3 tg] false) else M3.get p) = some c := hp
    by_cases e : p = M2.next
    · subst e; exact of_eq_true hq
    · rw [if_neg e] at hp'; exact hw3 p c hp'
  have hB4 := hB.keep (b4.any _)
  have hH4 := hH.quiet b4
  have hx4 : (M3.put M2.next (.cells [.int 3 hk, .int 3 tg] false)).get M2.next = some (.cells [.int 3 hk, .int 3 tg] false) := by simp [Mem.put]
  have htr := hB4.try_ cs.length (by simp)
  have e2 : (cs ++ [f])[cs.length]'(by simp) = f := by simp
  rw [e2] at htr
  obtain ⟨v5, M5, own5, p5, s5, u5, b5, w5⟩ := slO_pushFrom htr hw4 hB4.inn hx4 (n := 1) (c := 1) (X := [[.int 3 hk, .int 3 tg]]) rfl rfl (by simp [isCell]) (by omega) (by simp only [PairL, List.length_map, List.length_cons, List.length_nil, most]; omega)
  have hc5 := s5.cell
  have k5 : ∀ p c t, own p = some t → t ≠ (22, (cs.length : Int)) → (M3.put M2.next (.cells [.int 3 hk, .int 3 tg] false)).get p = some c → M5.get p = some c := fun p c t ho ht hp => b5.get p c (fun e => ht (by rw [ho] at e; exact Option.some.inj e)) hp
  have hcal5 : SlO M5 own5 (21, 0) Z.cv 3 (FrL (cs ++ [f]) Z.tv) := hB4.cal.keep (fun p c ho hp => k5 p c _ ho (by simp) hp) fun p ho => u5.old ho
  obtain ⟨b, st, hq5, _, hc6⟩ := hcal5.setCell (i := cs.length) (j := 2) (x := v5) (by rw [frL_len]; simp) (by omega) hc5 a1
  rw [Mem.store_eq] at st
  have hrow : ((FrL (cs ++ [f]) Z.tv)[cs.length]'(by rw [frL_len]; simp)).set 2 v5 = FrR { f with tries := f.tries ++ [(hk, tg)] } v5 := by
    have e : (FrL (cs ++ [f]) Z.tv)[cs.length]'(by rw [frL_len]; simp) = FrR f (Z.tv cs.length) := by
      have := frL_at (cs ++ [f]) Z.tv (i := cs.length) (by simp)
      rw [List.getElem?_eq_getElem (by rw [frL_len]; simp)] at this
      simpa using this
    rw [e]; rfl
  rw [hrow, frL_set] at hc6
  have hBn := hB4.row (f' := { f with tries := f.tries ++ [(hk, tg)] }) u5 b5 (by simpa [PairL] using s5) hq5 hc6
  simp only [go_sem, reduceCtorEq, Nat.reduceEqDiff, Nat.reduceAdd, Nat.reduceMul, Nat.reduceLeDiff, Nat.reduceSub, Nat.reduceLT, Nat.reduceBEq, Nat.reduceBNe, Int.reduceBEq, Int.reduceBNe, Int.reduceLT, Int.reduceLE, Int.reduceAdd, Int.reduceEq, Int.reduceNe, beq_self_eq_true, bne_self_eq_false, decide_true, decide_false, Bool.not_true, Bool.not_false, Bool.false_eq_true, false_and, and_false, not_true_eq_false, not_false_eq_true, d2, c2, hq, p5, hc5, st]
  obtain ⟨r1, r2⟩ := StackIs.step (M' := M5.put p b) (own' := own5) (fun p hp => ⟨(hP p hp).1, Nat.lt_of_lt_of_le (hP p hp).2 b4.next⟩) hH4 u5 ((b5.mono (fun p e => by rw [e]; simp)).trans (But.put (p := p) _ (by rw [hown]; simp) _)) hBn rfl
  exact ⟨r1, ((b1.trans b4).any _).trans r2, fun hp0 h0 => by
    have e := h0.same (b1.trans b4) hB4.spc
    subst e
    exact ⟨_, _, hBn.spc⟩⟩
end Go.Proofs.Ythpnhdopheofcaa

end
section
namespace Go.Proofs.Ythpnhdopheofcaa
open Go.Dx
variable {tbl : Nat → Option CFunc}

/-- A value that holds nothing. -/
def plain (v : Vl) : Prop := v.k < 5 ∧ v.k ≠ 0 ∧ mayV v = true
theorem plain.there {v : Vl} (h : plain v) (G : Hp) : thereV G v = true := by
  obtain ⟨h1, h2, h3⟩ := h
  have e : (v.k == 0) = false := by simpa using h2
  simp only [thereV, h3, refV_no h1, e]; rfl
theorem plain.ne {v : Vl} (h : plain v) : v ≠ fV := fun e => by rw [e] at h; exact absurd h.1 (by decide)
theorem plain.cnt_ {v : Vl} (h : plain v) (s : List Vl) : cnt (s ++ [v]) = cnt s := by rw [cnt_app]; simp [cnt, h.ne]

/-- The innermost call is gone. -/
theorem SkB.pop {M : Mem} {own : Own} {Z : SkY} {co : Int} {cs : List Fr} {f : Fr} (h : SkB M own Z co (cs ++ [f])) :
    ∃ v', sliceM M 3 none (some cs.length) none Z.cv = some v' ∧ isCell v' = true ∧ SkB (M.put Z.sp (.cells [.ptr Z.hp 0, .int 3 8, .int 3 co, v'] false)) own { Z with cv := v' } co cs := by
  obtain ⟨v', p', s'⟩ := h.cal.take_ (by omega) (k := cs.length) (by rw [frL_len]; simp)
  rw [frL_take] at s'
  exact ⟨v', p', s'.cell, h.calls (tv := Z.tv) (OwnUp.refl _ _ _ _) (But.refl _ _) s' (fun i hi => .inl ⟨by simp; omega, rfl, by rw [List.getElem_append_left hi]⟩) rfl⟩

/-- What is at the innermost call's cells: the tries. -/
theorem SkB.tries {M : Mem} {own : Own} {Z : SkY} {co : Int} {cs : List Fr} {f : Fr} (h : SkB M own Z co (cs ++ [f])) : SlO M own (22, (cs.length : Int)) (Z.tv cs.length) 2 (PairL f.tries) := by
  have htr := h.try_ cs.length (by simp)
  have e2 : (cs ++ [f])[cs.length]'(by simp) = f := by simp
  rw [e2] at htr
  exact htr

theorem frL_last (cs : List Fr) (f : Fr) (tv : Nat → AV) : (FrL (cs ++ [f]) tv)[cs.length]'(by rw [frL_len]; simp) = FrR f (tv cs.length) := by
  have := frL_at (cs ++ [f]) tv (i := cs.length) (by simp)
  rw [List.getElem?_eq_getElem (by rw [frL_len]; simp)] at this
  simpa using this
theorem SkB.setPc {M : Mem} {own : Own} {Z : SkY} {co : Int} {cs : List Fr} {f : Fr} (h : SkB M own Z co (cs ++ [f])) {p : Pos} {po pn : Nat} (a1 : slAt Z.cv = some (p, po, pn)) (tg : Int) :
    ∃ b, M.storeIn p (M.get p) (po + cs.length * 3 + 1) [.int 3 tg] = some (M.put p b) ∧ ∃ tv', SkB (M.put p b) own { Z with tv := tv' } co (cs ++ [{ f with pc := tg }]) := by
  obtain ⟨b, st, hq5, _, hc6⟩ := h.cal.setCell (i := cs.length) (j := 1) (x := .int 3 tg) (by rw [frL_len]; simp) (by omega) rfl a1
  rw [Mem.store_eq] at st
  have hrow : (FrR f (Z.tv cs.length)).set 1 (.int 3 tg) = FrR { f with pc := tg } (Z.tv cs.length) := rfl
  rw [frL_last, hrow, frL_set] at hc6
  exact ⟨b, st, _, h.row (f' := { f with pc := tg }) (OwnUp.refl _ _ _ _) (But.refl _ _) h.tries hq5 hc6⟩
theorem SkB.setTries {M : Mem} {own : Own} {Z : SkY} {co : Int} {cs : List Fr} {f : Fr} (h : SkB M own Z co (cs ++ [f])) {p : Pos} {po pn : Nat} (a1 : slAt Z.cv = some (p, po, pn)) {v : AV} {ts : List (Int × Int)} (hs : SlO M own (22, (cs.length : Int)) v 2 (PairL ts)) :
    ∃ b, M.storeIn p (M.get p) (po + cs.length * 3 + 2) [v] = some (M.put p b) ∧ ∃ tv', SkB (M.put p b) own { Z with tv := tv' } co (cs ++ [{ f with tries := ts }]) := by
  obtain ⟨b, st, hq5, _, hc6⟩ := h.cal.setCell (i := cs.length) (j := 2) (x := v) (by rw [frL_len]; simp) (by omega) hs.cell a1
  rw [Mem.store_eq] at st
  have hrow : (FrR f (Z.tv cs.length)).set 2 v = FrR { f with tries := ts } v := rfl
  rw [frL_last, hrow, frL_set] at hc6
  exact ⟨b, st, _, h.row (f' := { f with tries := ts }) (OwnUp.refl _ _ _ _) (But.refl _ _) hs hq5 hc6⟩

/-- The stack's own cells. -/
def spC (hp : Pos) (co : Int) (cv : AV) : Option MB := some (.cells [.ptr hp 0, .int 3 8, .int 3 co, cv] false)
theorem StackIs.cells {M : Mem} {sp : Pos} {P : Pos → Prop} {co : Int} {calls : List Fr} {G : Hp} (hS : StackIs M sp P co calls G) : ∃ hp cv, M.get sp = spC hp co cv := by
  obtain ⟨own, Z, rfl, h2, h3, h4⟩ := hS
  exact ⟨Z.hp, Z.cv, h3.spc⟩
theorem StackIs.open_ {M : Mem} {sp hp : Pos} {cv : AV} {P : Pos → Prop} {co : Int} {calls : List Fr} {G : Hp} (hS : StackIs M sp P co calls G) (hz : M.get sp = spC hp co cv) :
    ∃ own Z, Z.sp = sp ∧ Z.hp = hp ∧ Z.cv = cv ∧ (∀ p, P p → own p = none ∧ p.num < M.next.num) ∧ SkB M own Z co calls ∧ HeapIs M hp (fun p => P p ∨ own p ≠ none) G := by
  obtain ⟨own, Z, rfl, h2, h3, h4⟩ := hS
  have h1 := h3.spc
  rw [hz] at h1
  simp only [spC, Option.some.injEq, MB.cells.injEq, List.cons.injEq, AV.ptr.injEq] at h1
  obtain ⟨⟨⟨e1, _⟩, _, _, e2, _⟩, _⟩ := h1
  subst e1
  exact ⟨own, Z, rfl, rfl, e2.symm, h2, h3, h4⟩

/-- The heap's Push, in the stack's heap. -/
theorem hpush (T : SkT tbl) {M : Mem} {sp hp : Pos} {cv : AV} {P : Pos → Prop} {calls : List Fr} {G : Hp} {c : Int} {s : List Vl} {v : Vl} (hS : StackIs M sp P 2 calls G) (hz : M.get sp = spC hp 2 cv) (hW : SW G c s) (hl : s.length ≤ 2 ^ 30) (hv : v = fV ∨ plain v) (hc : cnt (s ++ [v]) < c) :
    CallW tbl 68 (.cons (.ptr hp 0) (.cons (.int 3 2) (.cons (VlA v) .nil))) M fun r M' => r = .ret (.int 3 0) ∧ (∃ G', StackIs M' sp P 2 calls G' ∧ SW G' c (s ++ [v])) ∧ But (fun p => ¬ P p) M M' ∧ M'.get sp = spC hp 2 cv := by
  obtain ⟨own, Z, rfl, rfl, rfl, hP, hB, hH⟩ := hS.open_ hz
  obtain ⟨o, e1, e2, e3⟩ := hW.o2
  have hth : thereV G v = true := by
    rcases hv with rfl | h
    · obtain ⟨o', k1, k2, k3⟩ := hW.o1
      have e : G.objs fV.n = some o' := k1
      have e' : (o'.kind == fV.k) = true := by rw [k2]; decide
      simp only [thereV, e, e']; decide
    · exact h.there G
  refine (push_ok T.h68 T.h75 T.h77 T.h81 T.h85 T.h115 T.h117 T.h143 hH e1 (by rw [e2]; decide) hth (by rw [e3]; simp only [most]; omega)).mono ?_
  rintro r M' ⟨rfl, hH', b⟩
  obtain ⟨s1, s2⟩ := StackIs.heap hP hB hH' b
  exact ⟨rfl, ⟨_, s1, hW.push e1 (hv.imp id fun h => h.1) hc⟩, s2, b.get _ _ (fun e => e (.inr (by rw [hB.spo]; simp))) hz⟩
/-- The heap's Pop, in the stack's heap. -/
theorem hpop (T : SkT tbl) {M : Mem} {sp hp : Pos} {cv : AV} {P : Pos → Prop} {calls : List Fr} {G : Hp} {c : Int} {s : List Vl} {v : Vl} (hS : StackIs M sp P 2 calls G) (hz : M.get sp = spC hp 2 cv) (hW : SW G c (s ++ [v])) (hl : s.length ≤ 2 ^ 30) :
    CallW tbl 37 (.cons (.ptr hp 0) (.cons (.int 3 2) .nil)) M fun r M' => r = .ret (.tuple (.cons (VlA v) (.cons (.int 3 0) .nil))) ∧ (∃ G', StackIs M' sp P 2 calls G' ∧ SW G' c s) ∧ But (fun p => ¬ P p) M M' ∧ M'.get sp = spC hp 2 cv := by
  obtain ⟨own, Z, rfl, rfl, rfl, hP, hB, hH⟩ := hS.open_ hz
  obtain ⟨o, e1, e2, e3⟩ := hW.o2
  refine (pop_some T.h37 T.h75 T.h80 T.h81 T.h85 hH e1 e3 (by rw [e3]; simp only [most, List.length_append, List.length_cons, List.length_nil]; omega)).mono ?_
  rintro r M' ⟨rfl, hH', b⟩
  obtain ⟨s1, s2⟩ := StackIs.heap hP hB hH' b
  exact ⟨rfl, ⟨_, s1, hW.pop e1⟩, s2, b.get _ _ (fun e => e (.inr (by rw [hB.spo]; simp))) hz⟩
end Go.Proofs.Ythpnhdopheofcaa

end
section
namespace Go.Proofs.Ythpnhdopheofcaa
open Go.Dx
variable {tbl : Nat → Option CFunc}

theorem throw_caught (T : SkT tbl) {M : Mem} {sp : Pos} {P : Pos → Prop} {cs post : List Fr} {f : Fr} {G : Hp} {c : Int} {s : List Vl} {ts : List (Int × Int)} {hh : Nat} {tg : Int} {v : Vl} {csl : List Fr} {fl : Fr} {o : Ob} (hgl : cs ++ [f] ++ post = csl ++ [fl]) (hg : Good G 2 csl fl o)
    (hS : StackIs M sp P 2 (cs ++ [f] ++ post) G) (hW : SW G c s) (hv : plain v) (hpost : ∀ g ∈ post, g.tries = []) (hf : f.tries = ts ++ [((hh : Int), tg)]) (htl : f.tries.length < 2 ^ 30) {bs : Nat} (hb : f.base = bs) (hhs : bs + 1 + hh ≤ s.length) :
    CallW tbl 20 (.cons (.ptr sp 0) (.cons (VlA v) .nil)) M fun r M' => r = .ret (.tuple (.cons (.bool true) (.cons (.int 3 0) .nil))) ∧ (∃ G', StackIs M' sp P 2 (cs ++ [{ f with tries := ts, pc := tg }]) G' ∧ SW G' (c - cnt (s.drop (bs + 1 + hh))) (s.take (bs + 1 + hh) ++ [v])) ∧ But (fun p => ¬ P p) M M' ∧ ∀ hp, HpOf M sp hp → HpOf M' sp hp := by
  refine CallW.wf fun hw => ?_
  obtain ⟨vk, vn⟩ := v
  refine CallW.intro T.h20 rfl (fr := .nod (.val .leaf (.ptr sp 0) .leaf) (.val .leaf (VlA ⟨vk, vn⟩) .leaf)) rfl ?_
  simp only [go_sem, reduceCtorEq, Nat.reduceEqDiff, Nat.reduceAdd, Nat.reduceMul, Nat.reduceLeDiff, Nat.reduceSub, Nat.reduceLT, Nat.reduceBEq, Nat.reduceBNe, Int.reduceBEq, Int.reduceBNe, Int.reduceLT, Int.reduceLE, Int.reduceAdd, Int.reduceEq, Int.reduceNe, beq_self_eq_true, bne_self_eq_false, decide_true, decide_false, Bool.not_true, Bool.not_false, Bool.false_eq_true, false_and, and_false, not_true_eq_false, not_false_eq_true, cf20, VlA]
  have b0 := But.new (S := fun _ => False) hw (.cells [.int 3 vk, .int 3 vn] false)
  have hS0 := hS.more hw (.cells [.int 3 vk, .int 3 vn] false)
  rw [hgl] at hS0
  refine (hg.state T hS0).use ?_
  rintro r M1 hw1 ⟨rfl, b1⟩
  have hS1 := hS0.quiet b1
  have x1 : M1.get M.next = some (.cells [.int 3 vk, .int 3 vn] false) := b1.get _ _ id (by simp only [go_sem, reduceCtorEq, Nat.reduceEqDiff, Nat.reduceAdd, Nat.reduceMul, Nat.reduceLeDiff, Nat.reduceSub, Nat.reduceLT, Nat.reduceBEq, Nat.reduceBNe, Int.reduceBEq, Int.reduceBNe, Int.reduceLT, Int.reduceLE, Int.reduceAdd, Int.reduceEq, Int.reduceNe, beq_self_eq_true, bne_self_eq_false, decide_true, decide_false, Bool.not_true, Bool.not_false, Bool.false_eq_true, false_and, and_false, not_true_eq_false, not_false_eq_true])
  generalize hbx : M.next = b at *
  simp only [go_sem, reduceCtorEq, Nat.reduceEqDiff, Nat.reduceAdd, Nat.reduceMul, Nat.reduceLeDiff, Nat.reduceSub, Nat.reduceLT, Nat.reduceBEq, Nat.reduceBNe, Int.reduceBEq, Int.reduceBNe, Int.reduceLT, Int.reduceLE, Int.reduceAdd, Int.reduceEq, Int.reduceNe, beq_self_eq_true, bne_self_eq_false, decide_true, decide_false, Bool.not_true, Bool.not_false, Bool.false_eq_true, false_and, and_false, not_true_eq_false, not_false_eq_true]
  obtain ⟨hp, cv, hz⟩ := hS1.cells
  have hz' := hz
  simp only [spC] at hz'
  have hco := hg.len
  simp only [go_sem, reduceCtorEq, Nat.reduceEqDiff, Nat.reduceAdd, Nat.reduceMul, Nat.reduceLeDiff, Nat.reduceSub, Nat.reduceLT, Nat.reduceBEq, Nat.reduceBNe, Int.reduceBEq, Int.reduceBNe, Int.reduceLT, Int.reduceLE, Int.reduceAdd, Int.reduceEq, Int.reduceNe, beq_self_eq_true, bne_self_eq_false, decide_true, decide_false, Bool.not_true, Bool.not_false, Bool.false_eq_true, false_and, and_false, not_true_eq_false, not_false_eq_true, hz']
  refine (n_spec T.h69 hS1).use ?_
  rintro r M2 hw2 ⟨rfl, rfl⟩
  simp only [go_sem, reduceCtorEq, Nat.reduceEqDiff, Nat.reduceAdd, Nat.reduceMul, Nat.reduceLeDiff, Nat.reduceSub, Nat.reduceLT, Nat.reduceBEq, Nat.reduceBNe, Int.reduceBEq, Int.reduceBNe, Int.reduceLT, Int.reduceLE, Int.reduceAdd, Int.reduceEq, Int.reduceNe, beq_self_eq_true, bne_self_eq_false, decide_true, decide_false, Bool.not_true, Bool.not_false, Bool.false_eq_true, false_and, and_false, not_true_eq_false, not_false_eq_true, x1]
  have hl : s.length ≤ 2 ^ 30 := by
    obtain ⟨o', e1, e2, e3⟩ := hW.o2
    have := hg.obj
    rw [e1] at this
    cases this
    rw [← e3]; exact hco
  refine (hpush T (v := ⟨vk, vn⟩) hS1 hz hW hl (.inr hv) (by rw [hv.cnt_]; exact hW.more)).use ?_
  rintro r M3 hw3 ⟨rfl, ⟨G3, hS3, hW3⟩, b3, hz3⟩
  have x3 := b3.get _ _ (fun e => e (.inr rfl)) x1
  have hz3' := hz3
  simp only [spC] at hz3'
  simp only [go_sem, reduceCtorEq, Nat.reduceEqDiff, Nat.reduceAdd, Nat.reduceMul, Nat.reduceLeDiff, Nat.reduceSub, Nat.reduceLT, Nat.reduceBEq, Nat.reduceBNe, Int.reduceBEq, Int.reduceBNe, Int.reduceLT, Int.reduceLE, Int.reduceAdd, Int.reduceEq, Int.reduceNe, beq_self_eq_true, bne_self_eq_false, decide_true, decide_false, Bool.not_true, Bool.not_false, Bool.false_eq_true, false_and, and_false, not_true_eq_false, not_false_eq_true]
  refine (n_spec T.h69 hS3).use ?_
  rintro r M4 hw4 ⟨rfl, rfl⟩
  simp only [go_sem, reduceCtorEq, Nat.reduceEqDiff, Nat.reduceAdd, Nat.reduceMul, Nat.reduceLeDiff, Nat.reduceSub, Nat.reduceLT, Nat.reduceBEq, Nat.reduceBNe, Int.reduceBEq, Int.reduceBNe, Int.reduceLT, Int.reduceLE, Int.reduceAdd, Int.reduceEq, Int.reduceNe, beq_self_eq_true, bne_self_eq_false, decide_true, decide_false, Bool.not_true, Bool.not_false, Bool.false_eq_true, false_and, and_false, not_true_eq_false, not_false_eq_true, hz3']
  refine (hpop T hS3 hz3 hW3 hl).use ?_
  rintro r M5 hw5 ⟨rfl, ⟨G5, hS5, hW5⟩, b5, hz5⟩
  have x5 := b5.get _ _ (fun e => e (.inr rfl)) x3
  simp only [go_sem, reduceCtorEq, Nat.reduceEqDiff, Nat.reduceAdd, Nat.reduceMul, Nat.reduceLeDiff, Nat.reduceSub, Nat.reduceLT, Nat.reduceBEq, Nat.reduceBNe, Int.reduceBEq, Int.reduceBNe, Int.reduceLT, Int.reduceLE, Int.reduceAdd, Int.reduceEq, Int.reduceNe, beq_self_eq_true, bne_self_eq_false, decide_true, decide_false, Bool.not_true, Bool.not_false, Bool.false_eq_true, false_and, and_false, not_true_eq_false, not_false_eq_true]
  rw [← hgl] at hS5
  have hb5 := b3.trans b5
  have hgc : csl.length < 2 ^ 30 := hg.calls
  have hle : (cs ++ [f] ++ post).length = csl.length + 1 := by rw [hgl]; simp
  simp only [List.length_append, List.length_cons, List.length_nil] at hle
  refine loop_wp (I := fun n fr M' => M'.wf ∧ n ≤ post.length ∧ (∃ G', StackIs M' sp (fun p => P p ∨ p = b) 2 (cs ++ [f] ++ post.take n) G' ∧ SW G' c s) ∧ But (fun p => ¬ (P p ∨ p = b)) M5 M' ∧ (∃ cv', M'.get sp = spC hp 2 cv') ∧
    fr.get (.o .h) = some (.ptr sp 0) ∧ fr.get (.i (.o .h)) = some (.ptr b 0) ∧ fr.get (.i (.o (.o .h))) = some (.func (.func 68) (.cons (.ptr hp 0) .nil) .nil)) (n := post.length) ?_ ?_
  · exact ⟨hw5, Nat.le_refl _, ⟨G5, by rw [List.take_length]; exact hS5, hW5⟩, But.refl _ _, ⟨_, hz5⟩, rfl, rfl, rfl⟩
  · rintro n fr M' ⟨i1, i2, ⟨G6, i3, i4⟩, i5, ⟨cv6, hz6⟩, f1, f2, f3⟩
    have x6 := i5.get _ _ (fun e => e (.inr rfl)) x5
    obtain ⟨own, Z, rfl, rfl, rfl, hP, hB, hH⟩ := i3.open_ hz6
    have hz6' := hz6
    simp only [spC] at hz6'
    have hlen := hB.cal.len
    rw [frL_len] at hlen
    simp only [List.length_append, List.length_cons, List.length_nil, List.length_take, Nat.min_eq_left i2] at hlen
    have g1 : decide (0 < ((cs.length + (0 + 1) + n : Nat) : Int)) = true := by simp; omega
    simp only [go_sem, reduceCtorEq, Nat.reduceEqDiff, Nat.reduceAdd, Nat.reduceMul, Nat.reduceLeDiff, Nat.reduceSub, Nat.reduceLT, Nat.reduceBEq, Nat.reduceBNe, Int.reduceBEq, Int.reduceBNe, Int.reduceLT, Int.reduceLE, Int.reduceAdd, Int.reduceEq, Int.reduceNe, beq_self_eq_true, bne_self_eq_false, decide_true, decide_false, Bool.not_true, Bool.not_false, Bool.false_eq_true, false_and, and_false, not_true_eq_false, not_false_eq_true, f1, hz6', hlen, g1]
    cases n with
    | zero =>
      simp only [List.take_zero, List.append_nil] at hB i3
      obtain ⟨p, po, pn, a1, htop, c0, c1, c2, hown⟩ := Good.top T hB (by omega)
      refine htop.use ?_
      rintro r M7 hw7 ⟨rfl, rfl⟩
      have htr := hB.tries
      have tlen := htr.len
      rw [hf] at tlen htr htl
      have tl2 : (PairL (ts ++ [((hh : Int), tg)])).length = ts.length + 1 := by simp [PairL]
      rw [tl2] at tlen
      have htl' : ts.length + 1 < 2 ^ 30 := by simpa using htl
      have g2 : decide ((0 : Int) < ((ts.length + 1 : Nat) : Int)) = true := by simp only [decide_eq_true_eq]; omega
      have e9 : IntKind.i64.wrap (((ts.length + 1 : Nat) : Int) - 1) = ((ts.length : Nat) : Int) := by rw [wrap64 (by omega) (by omega)]; omega
      obtain ⟨q, qo, q1, q2⟩ := htr.rows.at_ (i := ts.length) (Nat.lt_of_lt_of_eq (Nat.lt_succ_self _) tl2.symm)
      rw [tl2] at q1
      have q3 : (PairL (ts ++ [((hh : Int), tg)]))[ts.length]? = some [.int 3 hh, .int 3 tg] := by simp [PairL]
      rw [q3] at q2
      have g4 : ts.length < ts.length + 1 := by omega
      have b7 := But.fill hw7 (.cells [.int 3 0, .int 3 0] false) (.cells [.int 3 hh, .int 3 tg] false)
      have w8 := hw7.fill (.cells [.int 3 0, .int 3 0] false) (.cells [.int 3 hh, .int 3 tg] false)
      have hbp : ∃ bp, M7.get p = some bp := by
        cases hx : M7.get p with
        | none => rw [hx] at c0; cases c0
        | some bp => exact ⟨bp, rfl⟩
      obtain ⟨bp, hbp⟩ := hbp
      have nep := hw7.ne hbp
      have nep' := hw7.ne' hbp
      have i3' := i3
      have hB8 := hB.keep (b7.any _)
      have htr8 := hB8.tries
      rw [hf] at htr8
      obtain ⟨v8, p8, s8⟩ := htr8.take_ (by omega) (k := ts.length) (by rw [tl2]; omega)
      have hc8 := s8.cell
      have s8' : SlO ((M7.new (.cells [.int 3 0, .int 3 0] false)).put M7.next (.cells [.int 3 hh, .int 3 tg] false)) own (22, (cs.length : Int)) v8 2 (PairL ts) := by
        have e : (PairL (ts ++ [((hh : Int), tg)])).take ts.length = PairL ts := by simp [PairL]
        rw [e] at s8; exact s8
      have hx8 : ((M7.new (.cells [.int 3 0, .int 3 0] false)).put M7.next (.cells [.int 3 hh, .int 3 tg] false)).get M7.next = some (.cells [.int 3 hh, .int 3 tg] false) := by simp [Mem.put]
      obtain ⟨c9, st9, tv9, hB9⟩ := hB8.setTries a1 s8'
      have hbp8 := b7.get _ _ id hbp
      have hz8 := b7.get _ _ id hz6'
      have hH8 := hH.quiet b7
      have w9 := w8.put hbp8 c9
      obtain ⟨c10, st10, tv10, hB10⟩ := hB9.setPc a1 tg
      have w10 := w9.put (p := p) (o := c9) (by simp [Mem.put]) c10
      have nsp : (Z.sp = p) = False := eq_false fun e => by have := hB.spo; rw [e, hown] at this; cases this
      obtain ⟨r1, r2⟩ := StackIs.step (t := (0, 0)) (fun p hp => ⟨(hP p hp).1, Nat.lt_of_lt_of_le (hP p hp).2 b7.next⟩) hH8 (OwnUp.refl _ _ _ _) ((But.put (p := p) _ (by rw [hown]; simp) _).trans (But.put (p := p) _ (by rw [hown]; simp) _)) hB10 rfl
      obtain ⟨p', po', pn', a1', htop', d0, d1, d2, hown'⟩ := Good.top T hB10 (by omega)
      rw [a1] at a1'
      cases a1'
      generalize hM8 : (M7.new (.cells [.int 3 0, .int 3 0] false)).put M7.next (.cells [.int 3 hh, .int 3 tg] false) = M8 at *
      have c2' : MB.cell (M8.get p) (po + cs.length * 3 + 2) = some (Z.tv cs.length) := by rw [hbp8]; rw [hbp] at c2; exact c2
      simp only [go_sem, reduceCtorEq, Nat.reduceEqDiff, Nat.reduceAdd, Nat.reduceMul, Nat.reduceLeDiff, Nat.reduceSub, Nat.reduceLT, Nat.reduceBEq, Nat.reduceBNe, Int.reduceBEq, Int.reduceBNe, Int.reduceLT, Int.reduceLE, Int.reduceAdd, Int.reduceEq, Int.reduceNe, beq_self_eq_true, bne_self_eq_false, decide_true, decide_false, Bool.not_true, Bool.not_false, Bool.false_eq_true, false_and, and_false, not_true_eq_false, not_false_eq_true, c2, tlen, g2, e9, q1, q2, g4, hM8]
      have st10' := st10
      simp only [go_sem, reduceCtorEq, Nat.reduceEqDiff, Nat.reduceAdd, Nat.reduceMul, Nat.reduceLeDiff, Nat.reduceSub, Nat.reduceLT, Nat.reduceBEq, Nat.reduceBNe, Int.reduceBEq, Int.reduceBNe, Int.reduceLT, Int.reduceLE, Int.reduceAdd, Int.reduceEq, Int.reduceNe, beq_self_eq_true, bne_self_eq_false, decide_true, decide_false, Bool.not_true, Bool.not_false, Bool.false_eq_true, false_and, and_false, not_true_eq_false, not_false_eq_true] at st10'
      have d0' : MB.cell (some c10) (po + cs.length * 3) = some (.int 3 bs) := by simpa [Mem.put, hb] using d0
      have z1 : IntKind.i64.wrap ((bs : Int) + 1) = ((bs + 1 : Nat) : Int) := by rw [wrap64 (by omega) (by omega)]; omega
      have z2 : IntKind.i64.wrap (((bs + 1 : Nat) : Int) + hh) = ((bs + 1 + hh : Nat) : Int) := by rw [wrap64 (by omega) (by omega)]; omega
      simp only [go_sem, reduceCtorEq, Nat.reduceEqDiff, Nat.reduceAdd, Nat.reduceMul, Nat.reduceLeDiff, Nat.reduceSub, Nat.reduceLT, Nat.reduceBEq, Nat.reduceBNe, Int.reduceBEq, Int.reduceBNe, Int.reduceLT, Int.reduceLE, Int.reduceAdd, Int.reduceEq, Int.reduceNe, beq_self_eq_true, bne_self_eq_false, decide_true, decide_false, Bool.not_true, Bool.not_false, Bool.false_eq_true, false_and, and_false, not_true_eq_false, not_false_eq_true, c2', e9, p8, hc8, st9, hx8, nep, nep', st10', d0', z1, z2, f1, f2, f3, Nat.add_zero]
      refine (down_spec T r1 i4 hl (by omega)).use ?_
      rintro r M11 hw11 ⟨rfl, ⟨G11, hS11, hW11⟩, b11, hz11⟩
      have hz10 : ((M8.put p c9).put p c10).get Z.sp = spC Z.hp 2 Z.cv := by
        have e0 : ¬ (Z.sp = p) := of_eq_false nsp
        simp only [Mem.put, if_neg e0]
        exact hz8
      rw [hz10] at hz11
      have x8 : M8.get b = some (.cells [.int 3 vk, .int 3 vn] false) := b7.get _ _ id x6
      have r2' := r2.get _ _ (fun e => e (.inr rfl)) x8
      have x11 := b11.get _ _ (fun e => e (.inr rfl)) r2'
      simp only [go_sem, reduceCtorEq, Nat.reduceEqDiff, Nat.reduceAdd, Nat.reduceMul, Nat.reduceLeDiff, Nat.reduceSub, Nat.reduceLT, Nat.reduceBEq, Nat.reduceBNe, Int.reduceBEq, Int.reduceBNe, Int.reduceLT, Int.reduceLE, Int.reduceAdd, Int.reduceEq, Int.reduceNe, beq_self_eq_true, bne_self_eq_false, decide_true, decide_false, Bool.not_true, Bool.not_false, Bool.false_eq_true, false_and, and_false, not_true_eq_false, not_false_eq_true, f1]
      refine (n_spec T.h69 hS11).use ?_
      rintro r M12 hw12 ⟨rfl, rfl⟩
      simp only [go_sem, reduceCtorEq, Nat.reduceEqDiff, Nat.reduceAdd, Nat.reduceMul, Nat.reduceLeDiff, Nat.reduceSub, Nat.reduceLT, Nat.reduceBEq, Nat.reduceBNe, Int.reduceBEq, Int.reduceBNe, Int.reduceLT, Int.reduceLE, Int.reduceAdd, Int.reduceEq, Int.reduceNe, beq_self_eq_true, bne_self_eq_false, decide_true, decide_false, Bool.not_true, Bool.not_false, Bool.false_eq_true, false_and, and_false, not_true_eq_false, not_false_eq_true, f1, f2, f3, x11]
      have hl2 : (s.take (bs + 1 + hh)).length ≤ 2 ^ 30 := by rw [List.length_take]; omega
      refine (hpush T (v := ⟨vk, vn⟩) hS11 hz11 hW11 hl2 (.inr hv) (by rw [hv.cnt_]; exact hW11.more)).use ?_
      rintro r M13 hw13 ⟨rfl, ⟨G13, hS13, hW13⟩, b13, hz13⟩
      simp only [go_sem, reduceCtorEq, Nat.reduceEqDiff, Nat.reduceAdd, Nat.reduceMul, Nat.reduceLeDiff, Nat.reduceSub, Nat.reduceLT, Nat.reduceBEq, Nat.reduceBNe, Int.reduceBEq, Int.reduceBNe, Int.reduceLT, Int.reduceLE, Int.reduceAdd, Int.reduceEq, Int.reduceNe, beq_self_eq_true, bne_self_eq_false, decide_true, decide_false, Bool.not_true, Bool.not_false, Bool.false_eq_true, false_and, and_false, not_true_eq_false, not_false_eq_true]
      exact ⟨⟨G13, hS13.less fun p hp => .inl hp, hW13⟩, ((b0.trans b1).any _).trans (((((hb5.trans i5).trans (b7.any _)).trans r2).trans (b11.trans b13)).mono fun p hn hp => hn (.inl hp)), fun hp0 h0 => by
        have e := h0.same (b0.trans b1) hz'
        subst e
        exact ⟨_, _, hz13⟩⟩
    | succ k =>
      have hk : k < post.length := by omega
      have e7 : cs ++ [f] ++ post.take (k + 1) = (cs ++ [f] ++ post.take k) ++ [post[k]] := by rw [List.take_succ_eq_append_getElem hk]; simp only [List.append_assoc]
      rw [e7] at hB i3
      have l7 : (cs ++ [f] ++ post.take k).length = cs.length + (0 + 1) + k := by simp only [List.length_append, List.length_cons, List.length_nil, List.length_take]; omega
      obtain ⟨p, po, pn, a1, htop, c0, c1, c2, hown⟩ := Good.top T hB (by omega)
      refine htop.use ?_
      rintro r M7 hw7 ⟨rfl, rfl⟩
      have htr := hB.tries
      rw [hpost _ (List.getElem_mem hk)] at htr
      have tlen := htr.len
      simp only [PairL, List.map_nil, List.length_nil] at tlen
      have g2 : decide ((0 : Int) < ((0 : Nat) : Int)) = false := rfl
      obtain ⟨v8, p8, hc8, hB8⟩ := hB.pop
      rw [l7] at p8
      have e8 : IntKind.i64.wrap (((cs.length + (0 + 1) + (k + 1) : Nat) : Int) - 1) = ((cs.length + (0 + 1) + k : Nat) : Int) := by rw [wrap64 (by omega) (by omega)]; omega
      simp only [go_sem, reduceCtorEq, Nat.reduceEqDiff, Nat.reduceAdd, Nat.reduceMul, Nat.reduceLeDiff, Nat.reduceSub, Nat.reduceLT, Nat.reduceBEq, Nat.reduceBNe, Int.reduceBEq, Int.reduceBNe, Int.reduceLT, Int.reduceLE, Int.reduceAdd, Int.reduceEq, Int.reduceNe, beq_self_eq_true, bne_self_eq_false, decide_true, decide_false, Bool.not_true, Bool.not_false, Bool.false_eq_true, false_and, and_false, not_true_eq_false, not_false_eq_true, c2, tlen, g2, f1, hz6', hlen, e8, p8, hc8]
      obtain ⟨r1, r2⟩ := StackIs.step (M' := M7.put Z.sp (.cells [.ptr Z.hp 0, .int 3 8, .int 3 2, v8] false)) (t := (0, 0)) hP hH (OwnUp.refl _ _ _ _) (But.put (p := Z.sp) _ (by rw [hB.spo]; simp) _) hB8 rfl
      exact ⟨k, by omega, hw7.put hz6' _, by omega, ⟨G6, r1, i4⟩, i5.trans r2, ⟨v8, by simp [Mem.put, spC]⟩, by simp [Tr.get_set, f1], by simp [Tr.get_set, f2], by simp [Tr.get_set, f3]⟩
end Go.Proofs.Ythpnhdopheofcaa

end
section
namespace Go.Proofs.Ythpnhdopheofcaa
open Go.Dx
variable {tbl : Nat → Option CFunc}

def nilV : Vl := ⟨1, 0⟩
theorem nil_plain : plain nilV := ⟨by decide, by decide, by decide⟩

theorem enter_spec (T : SkT tbl) {M : Mem} {sp : Pos} {P : Pos → Prop} {cs : List Fr} {f : Fr} {G : Hp} {c : Int} {s : List Vl} {o : Ob} {a q bs : Nat} (hg : Good G 2 cs f o) (hS : StackIs M sp P 2 (cs ++ [f]) G) (hW : SW G c s) (hs : o.slots = s) (hb : f.base = bs)
    (ha : bs + 1 + a < s.length) (hq : q ≤ 20) (hk : ∀ x, s[s.length - 1 - a]? = some x → x.k = 7) (hn : cs.length < 99) (hl : s.length + 20 ≤ 2 ^ 30) :
    CallW tbl 19 (.cons (.ptr sp 0) (.cons (.int 3 a) (.cons (.int 3 q) .nil))) M fun r M' => r = .ret (.int 3 0) ∧ (∃ G', StackIs M' sp P 2 (cs ++ [f] ++ [⟨((s.length - 1 - a : Nat) : Int), 0, []⟩]) G' ∧ SW G' (c - cnt (s.drop (s.length - 1 - a + 1 + q))) (s.take (s.length - 1 - a + 1 + q) ++ List.replicate (q - a) nilV)) ∧ But (fun p => ¬ P p) M M' ∧ ∀ hp, HpOf M sp hp → HpOf M' sp hp := by
  refine CallW.wf fun hw => ?_
  refine CallW.intro T.h19 rfl (fr := .nod (.val (.val .leaf (.int 3 q) .leaf) (.ptr sp 0) .leaf) (.val .leaf (.int 3 a) .leaf)) rfl ?_
  simp only [go_sem, reduceCtorEq, Nat.reduceEqDiff, Nat.reduceAdd, Nat.reduceMul, Nat.reduceLeDiff, Nat.reduceSub, Nat.reduceLT, Nat.reduceBEq, Nat.reduceBNe, Int.reduceBEq, Int.reduceBNe, Int.reduceLT, Int.reduceLE, Int.reduceAdd, Int.reduceEq, Int.reduceNe, beq_self_eq_true, bne_self_eq_false, decide_true, decide_false, Bool.not_true, Bool.not_false, Bool.false_eq_true, false_and, and_false, not_true_eq_false, not_false_eq_true, cf19]
  refine (hg.state T hS).use ?_
  rintro r M1 hw1 ⟨rfl, b1⟩
  have hS1 := hS.quiet b1
  simp only [go_sem, reduceCtorEq, Nat.reduceEqDiff, Nat.reduceAdd, Nat.reduceMul, Nat.reduceLeDiff, Nat.reduceSub, Nat.reduceLT, Nat.reduceBEq, Nat.reduceBNe, Int.reduceBEq, Int.reduceBNe, Int.reduceLT, Int.reduceLE, Int.reduceAdd, Int.reduceEq, Int.reduceNe, beq_self_eq_true, bne_self_eq_false, decide_true, decide_false, Bool.not_true, Bool.not_false, Bool.false_eq_true, false_and, and_false, not_true_eq_false, not_false_eq_true]
  refine (height_spec T hg hS1).use ?_
  rintro r M2 hw2 ⟨rfl, b2⟩
  have hS2 := hS1.quiet b2
  have hol := hg.len
  rw [hs, hb]
  have g1 : decide ((a : Int) < 0) = false := by simp only [decide_eq_false_iff_not]; omega
  have g2 : decide ((s.length : Int) - bs - 1 ≤ a) = false := by simp only [decide_eq_false_iff_not]; omega
  have g3 : decide ((q : Int) < 0) = false := by simp only [decide_eq_false_iff_not]; omega
  have g4 : decide ((20 : Int) < q) = false := by simp only [decide_eq_false_iff_not]; omega
  have e1 : IntKind.i64.wrap ((s.length : Int) - bs - 1 - 1) = (s.length : Int) - bs - 2 := by rw [wrap64 (by omega) (by omega)]; omega
  have e2 : IntKind.i64.wrap ((s.length : Int) - bs - 2 - a) = (s.length : Int) - bs - 2 - a := by rw [wrap64 (by omega) (by omega)]
  simp only [go_sem, reduceCtorEq, Nat.reduceEqDiff, Nat.reduceAdd, Nat.reduceMul, Nat.reduceLeDiff, Nat.reduceSub, Nat.reduceLT, Nat.reduceBEq, Nat.reduceBNe, Int.reduceBEq, Int.reduceBNe, Int.reduceLT, Int.reduceLE, Int.reduceAdd, Int.reduceEq, Int.reduceNe, beq_self_eq_true, bne_self_eq_false, decide_true, decide_false, Bool.not_true, Bool.not_false, Bool.false_eq_true, false_and, and_false, not_true_eq_false, not_false_eq_true, g1, g2, g3, g4, e1, e2]
  refine (reg_spec T hg hS2 (j := s.length - 1 - a) (by rw [hs]; omega) (by omega) (by rw [hb]; omega)).use ?_
  rintro r M3 hw3 ⟨rfl, b3⟩
  have hS3 := hS2.quiet b3
  have hk' : (o.slots[s.length - 1 - a]'(by rw [hs]; omega)).k = 7 := hk _ (by subst hs; rw [List.getElem?_eq_getElem])
  have g5 : ((o.slots[s.length - 1 - a]'(by rw [hs]; omega)).k != 7) = false := by rw [hk']; rfl
  obtain ⟨hp, cv, hz⟩ := hS3.cells
  obtain ⟨own, Z, rfl, rfl, rfl, hP, hB, hH⟩ := hS3.open_ hz
  have hz' := hz
  simp only [spC] at hz'
  have hlen := hB.cal.len
  rw [frL_len] at hlen
  simp only [List.length_append, List.length_cons, List.length_nil] at hlen
  have g6 : decide ((100 : Int) ≤ ((cs.length + (0 + 1) : Nat) : Int)) = false := by simp only [decide_eq_false_iff_not]; omega
  simp only [go_sem, reduceCtorEq, Nat.reduceEqDiff, Nat.reduceAdd, Nat.reduceMul, Nat.reduceLeDiff, Nat.reduceSub, Nat.reduceLT, Nat.reduceBEq, Nat.reduceBNe, Int.reduceBEq, Int.reduceBNe, Int.reduceLT, Int.reduceLE, Int.reduceAdd, Int.reduceEq, Int.reduceNe, beq_self_eq_true, bne_self_eq_false, decide_true, decide_false, Bool.not_true, Bool.not_false, Bool.false_eq_true, false_and, and_false, not_true_eq_false, not_false_eq_true, VlA, g5, hz', hlen, g6]
  refine (hg.slots T hS3).use ?_
  rintro r M4 hw4 ⟨rfl, b4⟩
  rw [hs]
  have hz4 := b4.get _ _ id hz'
  have e3 : IntKind.i64.wrap ((s.length : Int) - 1) = (s.length : Int) - 1 := by rw [wrap64 (by omega) (by omega)]
  have e4 : IntKind.i64.wrap ((s.length : Int) - 1 - a) = ((s.length - 1 - a : Nat) : Int) := by rw [wrap64 (by omega) (by omega)]; omega
  have hB4 := hB.keep (b4.any _)
  have hH4 := hH.quiet b4
  obtain ⟨v5, M5, own5, p5, s5, u5, b5, w5⟩ := hB4.cal.push_ hw4 hB4.inn (n := 1) (c := 1) (X := [FrR ⟨((s.length - 1 - a : Nat) : Int), 0, []⟩ .nilslice]) (x := [.int 3 ((s.length - 1 - a : Nat) : Int), .int 3 0, .nilslice]) rfl rfl (by simp [FrR, isCell]) (by omega) (by rw [frL_len]; simp only [most, List.length_append, List.length_cons, List.length_nil]; omega)
  have hc5 := s5.cell
  have hz5 : M5.get Z.sp = some (.cells [.ptr Z.hp 0, .int 3 8, .int 3 2, Z.cv] false) := b5.get _ _ (fun e => by rw [hB4.spo] at e; cases e) hz4
  clear hk hk' g5
  generalize hbb : s.length - 1 - a = bb at *
  rw [frL_snoc] at s5
  have hl5 : (cs ++ [f]).length = cs.length + 1 := by simp
  have hB5 := hB4.calls u5 b5 s5 (fun i hi => by
    by_cases e : i < (cs ++ [f]).length
    · exact .inl ⟨e, by rw [if_neg (by omega)], by rw [List.getElem_append_left e]⟩
    · have e' : i = (cs ++ [f]).length := by simp only [List.length_append, List.length_cons, List.length_nil] at hi e ⊢; omega
      subst e'
      exact .inr ⟨if_pos rfl, by simp⟩) rfl
  obtain ⟨r1, r2⟩ := StackIs.step (own := own) (Z := Z) (M' := M5.put Z.sp (.cells [.ptr Z.hp 0, .int 3 8, .int 3 2, v5] false)) (fun p hp => ⟨(hP p hp).1, Nat.lt_of_lt_of_le (hP p hp).2 b4.next⟩) hH4 u5 ((b5.mono (fun p e => by rw [e]; simp)).trans (But.put (p := Z.sp) _ (by rw [hB4.spo]; simp) _)) hB5 rfl
  have e5 : IntKind.i64.wrap ((bb : Int) + 1) = ((bb + 1 : Nat) : Int) := by rw [wrap64 (by omega) (by omega)]; omega
  have e6 : IntKind.i64.wrap (((bb + 1 : Nat) : Int) + q) = ((bb + 1 + q : Nat) : Int) := by rw [wrap64 (by omega) (by omega)]; omega
  simp only [go_sem, reduceCtorEq, Nat.reduceEqDiff, Nat.reduceAdd, Nat.reduceMul, Nat.reduceLeDiff, Nat.reduceSub, Nat.reduceLT, Nat.reduceBEq, Nat.reduceBNe, Int.reduceBEq, Int.reduceBNe, Int.reduceLT, Int.reduceLE, Int.reduceAdd, Int.reduceEq, Int.reduceNe, beq_self_eq_true, bne_self_eq_false, decide_true, decide_false, Bool.not_true, Bool.not_false, Bool.false_eq_true, false_and, and_false, not_true_eq_false, not_false_eq_true, e3, e4, hz4, p5, hz5, hc5, e5, e6]
  refine (down_spec T r1 hW (by omega) (by omega)).use ?_
  rintro r M6 hw6 ⟨rfl, ⟨G6, hS6, hW6⟩, b6, hz6⟩
  have hz6' : M6.get Z.sp = spC Z.hp 2 v5 := by rw [hz6]; simp [Mem.put, spC]
  have hll : (s.take (bb + 1 + q)).length ≤ s.length := by rw [List.length_take]; omega
  simp only [go_sem, reduceCtorEq, Nat.reduceEqDiff, Nat.reduceAdd, Nat.reduceMul, Nat.reduceLeDiff, Nat.reduceSub, Nat.reduceLT, Nat.reduceBEq, Nat.reduceBNe, Int.reduceBEq, Int.reduceBNe, Int.reduceLT, Int.reduceLE, Int.reduceAdd, Int.reduceEq, Int.reduceNe, beq_self_eq_true, bne_self_eq_false, decide_true, decide_false, Bool.not_true, Bool.not_false, Bool.false_eq_true, false_and, and_false, not_true_eq_false, not_false_eq_true]
  refine loop_wp (I := fun n fr M' => M'.wf ∧ n ≤ q - a ∧ (∃ G', StackIs M' Z.sp P 2 (cs ++ [f] ++ [⟨(bb : Int), 0, []⟩]) G' ∧ SW G' (c - cnt (s.drop (bb + 1 + q))) (s.take (bb + 1 + q) ++ List.replicate (q - a - n) nilV)) ∧ But (fun p => ¬ P p) M6 M' ∧ M'.get Z.sp = spC Z.hp 2 v5 ∧
    fr.get (.o .h) = some (.ptr Z.sp 0) ∧ fr.get (.i .h) = some (.int 3 ((a + (q - a - n) : Nat) : Int)) ∧ fr.get (.o (.o .h)) = some (.int 3 q)) (n := q - a) ?_ ?_
  · exact ⟨hw6, Nat.le_refl _, ⟨G6, hS6, by rw [Nat.sub_self]; simpa using hW6⟩, But.refl _ _, hz6', rfl, by simp [Tr.get], rfl⟩
  · rintro n fr M' ⟨i1, i2, ⟨G7, i3, i4⟩, i5, i6, f1, f2, f3⟩
    have i6' := i6
    simp only [spC] at i6'
    cases n with
    | zero =>
      have g7 : decide (((a + (q - a - 0) : Nat) : Int) < q) = false := by simp only [decide_eq_false_iff_not]; omega
      simp only [go_sem, reduceCtorEq, Nat.reduceEqDiff, Nat.reduceAdd, Nat.reduceMul, Nat.reduceLeDiff, Nat.reduceSub, Nat.reduceLT, Nat.reduceBEq, Nat.reduceBNe, Int.reduceBEq, Int.reduceBNe, Int.reduceLT, Int.reduceLE, Int.reduceAdd, Int.reduceEq, Int.reduceNe, beq_self_eq_true, bne_self_eq_false, decide_true, decide_false, Bool.not_true, Bool.not_false, Bool.false_eq_true, false_and, and_false, not_true_eq_false, not_false_eq_true, f1, f2, f3, g7]
      rw [Nat.sub_zero] at i4
      exact ⟨⟨G7, i3, i4⟩, ((((b1.trans b2).trans b3).trans b4).any _).trans ((r2.trans b6).trans i5), fun hp0 h0 => by
        have e := h0.same ((b1.trans b2).trans b3) hz'
        subst e
        exact ⟨_, _, i6⟩⟩
    | succ k =>
      have g7 : decide (((a + (q - a - (k + 1)) : Nat) : Int) < q) = true := by simp only [decide_eq_true_eq]; omega
      simp only [go_sem, reduceCtorEq, Nat.reduceEqDiff, Nat.reduceAdd, Nat.reduceMul, Nat.reduceLeDiff, Nat.reduceSub, Nat.reduceLT, Nat.reduceBEq, Nat.reduceBNe, Int.reduceBEq, Int.reduceBNe, Int.reduceLT, Int.reduceLE, Int.reduceAdd, Int.reduceEq, Int.reduceNe, beq_self_eq_true, bne_self_eq_false, decide_true, decide_false, Bool.not_true, Bool.not_false, Bool.false_eq_true, false_and, and_false, not_true_eq_false, not_false_eq_true, f1, f2, f3, g7]
      refine (n_spec T.h69 i3).use ?_
      rintro r M8 hw8 ⟨rfl, rfl⟩
      simp only [go_sem, reduceCtorEq, Nat.reduceEqDiff, Nat.reduceAdd, Nat.reduceMul, Nat.reduceLeDiff, Nat.reduceSub, Nat.reduceLT, Nat.reduceBEq, Nat.reduceBNe, Int.reduceBEq, Int.reduceBNe, Int.reduceLT, Int.reduceLE, Int.reduceAdd, Int.reduceEq, Int.reduceNe, beq_self_eq_true, bne_self_eq_false, decide_true, decide_false, Bool.not_true, Bool.not_false, Bool.false_eq_true, false_and, and_false, not_true_eq_false, not_false_eq_true, f1, i6']
      refine (hpush T (v := nilV) i3 i6 i4 (by rw [List.length_append, List.length_replicate]; omega) (.inr nil_plain) (by rw [nil_plain.cnt_]; exact i4.more)).use ?_
      rintro r M9 hw9 ⟨rfl, ⟨G9, hS9, hW9⟩, b9, hz9⟩
      have e8 : q - a - k = (q - a - (k + 1)) + 1 := by omega
      have e9 : IntKind.i64.wrap (((a + (q - a - (k + 1)) : Nat) : Int) + 1) = ((a + (q - a - k) : Nat) : Int) := by rw [wrap64 (by omega) (by omega)]; omega
      simp only [go_sem, reduceCtorEq, Nat.reduceEqDiff, Nat.reduceAdd, Nat.reduceMul, Nat.reduceLeDiff, Nat.reduceSub, Nat.reduceLT, Nat.reduceBEq, Nat.reduceBNe, Int.reduceBEq, Int.reduceBNe, Int.reduceLT, Int.reduceLE, Int.reduceAdd, Int.reduceEq, Int.reduceNe, beq_self_eq_true, bne_self_eq_false, decide_true, decide_false, Bool.not_true, Bool.not_false, Bool.false_eq_true, false_and, and_false, not_true_eq_false, not_false_eq_true, f1, f2, f3, e9]
      refine ⟨k, by omega, hw9, by omega, ⟨G9, hS9, ?_⟩, i5.trans b9, hz9, by simp [Tr.get_set, f1], by simp [Tr.get_set], by simp [Tr.get_set, f3]⟩
      rw [e8, List.replicate_succ', ← List.append_assoc]
      exact hW9
end Go.Proofs.Ythpnhdopheofcaa

end
section
namespace Go.Proofs.Ythpnhdopheofcaa
open Go.Dx
variable {tbl : Nat → Option CFunc}

theorem make31 (M : Mem) : makeO M ((AV.int 3 0).cons ((AV.int 3 0).cons (AV.nilslice.cons AV.nil))) 3 1 1 = some (M.next, M.new (.cells [.int 3 0, .int 3 0, .nilslice] false)) := rfl
theorem make20 (M : Mem) : makeO M ((AV.int 3 0).cons ((AV.int 3 0).cons AV.nil)) 2 0 0 = some (M.next, M.new (.cells [] false)) := rfl
theorem copy0 {v : AV} (h : slLen v = some 0) (M : Mem) (size : Nat) (q : Pos) : copyO M size (.slice q 0 0 0) v = some (.int 3 0, M) := by
  rcases slLen_shape h with rfl | ⟨p, o, c, rfl⟩ | ⟨p, o, s, rfl⟩ <;> simp [copyO, srcM, firstM, putAtM, lenOf]
/-- Frames, where there is one call without a try. -/
theorem frames_one (T : SkT tbl) {M : Mem} {sp : Pos} {P : Pos → Prop} {co : Int} {f : Fr} {G : Hp} (hS : StackIs M sp P co [f] G) (hf : f.tries = []) :
    CallW tbl 24 (.cons (.ptr sp 0) .nil) M fun r M' => (∃ v, r = .ret v ∧ slLen v = some 1) ∧ But (fun _ => False) M M' := by
  refine CallW.wf fun hw => ?_
  obtain ⟨own, Z, rfl, hP, hB, hH⟩ := hS
  refine CallW.intro T.h24 rfl (fr := .nod (.val .leaf (.ptr Z.sp 0) .leaf) .leaf) rfl ?_
  have hlen : slLen Z.cv = some 1 := by rw [hB.cal.len, frL_len]; rfl
  obtain ⟨p, po, a1, a2⟩ := hB.cal.rows.at_ (i := 0) (by rw [frL_len]; simp)
  rw [frL_len] at a1
  rw [frL_at _ _ (by simp)] at a2
  have hcv := hB.keep (But.new (S := fun p => own p = none) hw (.cells [.int 3 0, .int 3 0, .nilslice] false))
  have hsrc : srcM (M.new (.cells [.int 3 0, .int 3 0, .nilslice] false)) 3 1 Z.cv = some (FrR f (Z.tv 0)) := by
    have := hcv.cal.rows.src (by rw [hcv.cal.len']) (fun l n e => by have := hcv.cal.len; rw [e] at this; cases this)
    simpa [FrL] using this
  have hll : lenOf Z.cv = some 1 := by rw [hB.cal.len', frL_len]; rfl
  have htr : SlO M own (22, ((0 : Nat) : Int)) (Z.tv 0) 2 (PairL f.tries) := hB.try_ 0 (by simp)
  have htc := htr.cell
  have htl := htr.len
  rw [hf] at htl
  simp only [PairL, List.map_nil, List.length_nil] at htl
  have hcp : copyO (M.new (.cells [.int 3 0, .int 3 0, .nilslice] false)) 3 (.slice M.next 0 1 1) Z.cv = some (.int 3 1, (M.new (.cells [.int 3 0, .int 3 0, .nilslice] false)).put M.next (.cells (FrR f (Z.tv 0)) false)) := by
    simp only [copyO, hll, Option.bind_some, lenOf_slice]
    rw [show Nat.min 1 1 = 1 from rfl, hsrc]
    have i1 : ∀ n, isCell (.int 3 n) = true := fun _ => rfl
    simp [putAtM, Mem.store, Mem.new, Mem.put, FrR, i1, htc, overL]
  have ne := hw.ne hB.spc
  simp only [go_sem, reduceCtorEq, Nat.reduceEqDiff, Nat.reduceAdd, Nat.reduceMul, Nat.reduceLeDiff, Nat.reduceSub, Nat.reduceLT, Nat.reduceBEq, Nat.reduceBNe, Int.reduceBEq, Int.reduceBNe, Int.reduceLT, Int.reduceLE, Int.reduceAdd, Int.reduceEq, Int.reduceNe, beq_self_eq_true, bne_self_eq_false, decide_true, decide_false, Bool.not_true, Bool.not_false, Bool.false_eq_true, false_and, and_false, not_true_eq_false, not_false_eq_true, cf24, hB.spc, hlen, make31, ne, hcp]
  have w1 := hw.fill (.cells [.int 3 0, .int 3 0, .nilslice] false) (.cells (FrR f (Z.tv 0)) false)
  have b1 := But.fill hw (.cells [.int 3 0, .int 3 0, .nilslice] false) (.cells (FrR f (Z.tv 0)) false)
  refine loop_wp (I := fun n fr M' => ((n = 1 ∧ M' = (M.new (.cells [.int 3 0, .int 3 0, .nilslice] false)).put M.next (.cells (FrR f (Z.tv 0)) false) ∧ fr.get (.o (.o (.o (.i .h)))) = some (.int 3 0)) ∨ (n = 0 ∧ But (fun _ => False) M M' ∧ fr.get (.o (.o (.o (.i .h)))) = some (.int 3 1))) ∧
    fr.get (.i (.o .h)) = some (.slice M.next 0 1 1) ∧ fr.get (.o (.i (.i (.o .h)))) = some (.slice M.next 0 1 1) ∧ fr.get (.i (.i (.i (.o .h)))) = some (.int 3 1)) (n := 1) ?_ ?_
  · exact ⟨.inl ⟨rfl, rfl, rfl⟩, rfl, rfl, rfl⟩
  · rintro n fr M' ⟨⟨rfl, rfl, f1⟩ | ⟨rfl, h2, f1⟩, f2, f3, f4⟩
    · have g : decide ((0 : Int) < 1) = true := rfl
      have g1 : (0 : Nat) < 1 := by omega
      simp only [go_sem, reduceCtorEq, Nat.reduceEqDiff, Nat.reduceAdd, Nat.reduceMul, Nat.reduceLeDiff, Nat.reduceSub, Nat.reduceLT, Nat.reduceBEq, Nat.reduceBNe, Int.reduceBEq, Int.reduceBNe, Int.reduceLT, Int.reduceLE, Int.reduceAdd, Int.reduceEq, Int.reduceNe, beq_self_eq_true, bne_self_eq_false, decide_true, decide_false, Bool.not_true, Bool.not_false, Bool.false_eq_true, false_and, and_false, not_true_eq_false, not_false_eq_true, f1, f2, f3, f4, g, g1, FrR, htc, htl, make20, copy0 htl]
      have b2 := But.fill w1 (.cells [.int 3 0, .int 3 0, .nilslice] false) (.cells [.int 3 f.base, .int 3 f.pc, Z.tv 0] false)
      have w2 := w1.fill (.cells [.int 3 0, .int 3 0, .nilslice] false) (.cells [.int 3 f.base, .int 3 f.pc, Z.tv 0] false)
      have b3 := But.new (S := fun _ => False) w2 (.cells [] false)
      refine ⟨0, by omega, .inr ⟨rfl, But.fresh hw ((((b1.trans b2).trans b3).any _).trans (But.put (p := M.next) _ (.inr (Nat.le_refl _)) _)), ?_⟩, ?_, ?_, ?_⟩
      · rw [Tr.get_set]; rfl
      · simp [Tr.get_set, f2]
      · simp [Tr.get_set, f3]
      · simp [Tr.get_set, f4]
    · have g : decide ((1 : Int) < 1) = false := rfl
      simp only [go_sem, reduceCtorEq, Nat.reduceEqDiff, Nat.reduceAdd, Nat.reduceMul, Nat.reduceLeDiff, Nat.reduceSub, Nat.reduceLT, Nat.reduceBEq, Nat.reduceBNe, Int.reduceBEq, Int.reduceBNe, Int.reduceLT, Int.reduceLE, Int.reduceAdd, Int.reduceEq, Int.reduceNe, beq_self_eq_true, bne_self_eq_false, decide_true, decide_false, Bool.not_true, Bool.not_false, Bool.false_eq_true, false_and, and_false, not_true_eq_false, not_false_eq_true, f1, f2, f3, f4, g]
      exact ⟨⟨_, rfl, rfl⟩, h2⟩
end Go.Proofs.Ythpnhdopheofcaa

end
section
namespace Go.Proofs.Ythpnhdopheofcaa
open Go.Dx
variable {tbl : Nat → Option CFunc}

theorem make31' (M : Mem) : makeO M ((AV.int 3 0).cons ((AV.int 3 0).cons (AV.nilslice.cons AV.nil))) 3 1 1 = some (M.next, M.new (.cells [.int 3 0, .int 3 0, .nilslice] false)) := rfl

theorem SW.there {G : Hp} {c : Int} {s : List Vl} (hW : SW G c s) : thereV G fV = true := by
  obtain ⟨o', k1, k2, k3⟩ := hW.o1
  have e : G.objs fV.n = some o' := k1
  have e' : (o'.kind == fV.k) = true := by rw [k2]; decide
  simp only [thereV, e, e']; decide
theorem newStack {M : Mem} (hw : M.wf) {hp : Pos} {P P' : Pos → Prop} {G : Hp} (hH : HeapIs M hp P' G) (hPP : ∀ p, P p → P' p) :
    StackIs (((⟨M.next.succ, M.get⟩ : Mem).new (.cells [.int 3 0, .int 3 0, .nilslice] false)).put M.next (.cells [.ptr hp 0, .int 3 8, .int 3 2, .slice M.next.succ 0 1 1] false)) M.next P 2 [⟨0, 0, []⟩] G ∧
      But (fun _ => False) M (((⟨M.next.succ, M.get⟩ : Mem).new (.cells [.int 3 0, .int 3 0, .nilslice] false)).put M.next (.cells [.ptr hp 0, .int 3 8, .int 3 2, .slice M.next.succ 0 1 1] false)) := by
  have b2 : But (fun _ => False) (⟨M.next.succ, M.get⟩ : Mem) (((⟨M.next.succ, M.get⟩ : Mem).new (.cells [.int 3 0, .int 3 0, .nilslice] false)).put M.next (.cells [.ptr hp 0, .int 3 8, .int 3 2, .slice M.next.succ 0 1 1] false)) :=
    ⟨by show M.next.succ.num ≤ M.next.succ.succ.num; rw [Pos.num_succ (M.next.succ)]; omega, fun p b _ hp => by
      have h1 := hw p b hp
      have e1 : ¬ (p = M.next) := fun e => by rw [e] at h1; omega
      have e2 : ¬ (p = M.next.succ) := fun e => by rw [e, Pos.num_succ] at h1; omega
      show (if p = M.next then _ else if p = M.next.succ then _ else M.get p) = _
      rw [if_neg e1, if_neg e2]
      exact hp⟩
  have hlow := hH
  obtain ⟨_, _, _, hlow, _⟩ := hlow
  have hH1 := hH.wide (But_reserve M _) (q := M.next) (Nat.le_refl _) (by show M.next.num < M.next.succ.num; rw [Pos.num_succ]; omega)
  have hH2 := hH1.wide b2 (q := M.next.succ) (Nat.le_refl _) (by show M.next.succ.num < M.next.succ.succ.num; rw [Pos.num_succ (M.next.succ)]; omega)
  have hne : M.next ≠ M.next.succ := fun e => by have := congrArg Pos.num e; rw [Pos.num_succ] at this; omega
  refine ⟨⟨fun p => if p = M.next then some (20, 0) else if p = M.next.succ then some (21, 0) else none, ⟨M.next, hp, .slice M.next.succ 0 1 1, fun _ => .nilslice⟩, rfl, ?_, ⟨?_, ?_, ?_, ?_, ?_⟩, ?_⟩, (But_reserve M _).trans b2⟩
  · intro p hp
    have h1 := (hlow p (hPP p hp)).2
    have e1 : ¬ (p = M.next) := fun e => by rw [e] at h1; omega
    have e2 : ¬ (p = M.next.succ) := fun e => by rw [e, Pos.num_succ] at h1; omega
    refine ⟨by simp only [if_neg e1, if_neg e2], ?_⟩
    show p.num < M.next.succ.succ.num
    rw [Pos.num_succ, Pos.num_succ]; omega
  · intro p hp
    show p.num < M.next.succ.succ.num
    rw [Pos.num_succ, Pos.num_succ]
    by_cases e1 : p = M.next
    · rw [e1]; omega
    · by_cases e2 : p = M.next.succ
      · rw [e2, Pos.num_succ]; omega
      · simp only [if_neg e1, if_neg e2] at hp; exact absurd rfl hp
  · simp
  · simp [Mem.put]
  · refine ⟨fun x hx => by simp [FrL, FrR] at hx; subst hx; exact ⟨rfl, rfl⟩, .inr (.inr ⟨M.next.succ, [], [], false, by simp [hne.symm], by simp [Mem.put, Mem.new, hne.symm, FrL, FrR], ⟨rfl, rfl⟩, .inr ⟨1, rfl, by simp [FrL], by simp [FrL]⟩⟩)⟩
  · intro i hi
    have e : i = 0 := by simp at hi; exact hi
    subst e
    exact SlO.nil _ _ _ _
  · refine hH2.less ?_
    rintro p (hp | hp)
    · exact .inl (.inl (hPP p hp))
    · by_cases e1 : p = M.next
      · exact .inl (.inr e1)
      · by_cases e2 : p = M.next.succ
        · exact .inr e2
        · simp only [if_neg e1, if_neg e2] at hp; exact absurd rfl hp
theorem snew_spec (T : SkT tbl) {M : Mem} {hp : Pos} {P : Pos → Prop} {G : Hp} {o : Ob} {c : Int} (hH : HeapIs M hp P G) (h1 : G.objs 1 = some o) (hk : o.kind = 7) (hs : o.slots = []) (hc : o.count = c) (hc1 : 1 < c) (hc2 : c < 2 ^ 61) (h0 : G.objs 0 = none) (hf : G.free = []) (hn : G.next = 2) (hb : G.buffer = []) :
    CallW tbl 31 (.cons (.ptr hp 0) (.cons (VlA fV) .nil)) M fun r M' => ∃ sp, r = .ret (.tuple (.cons (.ptr sp 0) (.cons (.int 3 0) .nil))) ∧ (∃ G', StackIs M' sp P 2 [⟨0, 0, []⟩] G' ∧ SW G' c [fV]) ∧ But (fun p => ¬ P p) M M' ∧ ∃ cv, M'.get sp = spC hp 2 cv := by
  refine CallW.wf fun hw => ?_
  refine CallW.intro T.h31 rfl (fr := .nod (.val .leaf (.ptr hp 0) .leaf) (.val .leaf (VlA fV) .leaf)) rfl ?_
  simp only [go_sem, reduceCtorEq, Nat.reduceEqDiff, Nat.reduceAdd, Nat.reduceMul, Nat.reduceLeDiff, Nat.reduceSub, Nat.reduceLT, Nat.reduceBEq, Nat.reduceBNe, Int.reduceBEq, Int.reduceBNe, Int.reduceLT, Int.reduceLE, Int.reduceAdd, Int.reduceEq, Int.reduceNe, beq_self_eq_true, bne_self_eq_false, decide_true, decide_false, Bool.not_true, Bool.not_false, Bool.false_eq_true, false_and, and_false, not_true_eq_false, not_false_eq_true, cf31, VlA, fV]
  have b0 := But.new (S := fun _ => False) hw (.cells [.int 3 7, .int 3 1] false)
  have hH0 := hH.more hw (.cells [.int 3 7, .int 3 1] false)
  have x0 : (M.new (.cells [.int 3 7, .int 3 1] false)).get M.next = some (.cells [.int 3 7, .int 3 1] false) := by simp only [go_sem, reduceCtorEq, Nat.reduceEqDiff, Nat.reduceAdd, Nat.reduceMul, Nat.reduceLeDiff, Nat.reduceSub, Nat.reduceLT, Nat.reduceBEq, Nat.reduceBNe, Int.reduceBEq, Int.reduceBNe, Int.reduceLT, Int.reduceLE, Int.reduceAdd, Int.reduceEq, Int.reduceNe, beq_self_eq_true, bne_self_eq_false, decide_true, decide_false, Bool.not_true, Bool.not_false, Bool.false_eq_true, false_and, and_false, not_true_eq_false, not_false_eq_true]
  refine (suspect_none T.h78 T.h75 hH0 h0).use ?_
  rintro r M1 hw1 ⟨rfl, rfl⟩
  simp only [go_sem, reduceCtorEq, Nat.reduceEqDiff, Nat.reduceAdd, Nat.reduceMul, Nat.reduceLeDiff, Nat.reduceSub, Nat.reduceLT, Nat.reduceBEq, Nat.reduceBNe, Int.reduceBEq, Int.reduceBNe, Int.reduceLT, Int.reduceLE, Int.reduceAdd, Int.reduceEq, Int.reduceNe, beq_self_eq_true, bne_self_eq_false, decide_true, decide_false, Bool.not_true, Bool.not_false, Bool.false_eq_true, false_and, and_false, not_true_eq_false, not_false_eq_true]
  refine (obj_some T.h25 T.h75 T.h76 hH0 h1 (by rw [hs]; simp [most])).use ?_
  rintro r M2 hw2 ⟨sv, rfl, hfr, b2⟩
  have hH2 := hH0.quiet b2
  have x2 := b2.get _ _ id x0
  simp only [go_sem, reduceCtorEq, Nat.reduceEqDiff, Nat.reduceAdd, Nat.reduceMul, Nat.reduceLeDiff, Nat.reduceSub, Nat.reduceLT, Nat.reduceBEq, Nat.reduceBNe, Int.reduceBEq, Int.reduceBNe, Int.reduceLT, Int.reduceLE, Int.reduceAdd, Int.reduceEq, Int.reduceNe, beq_self_eq_true, bne_self_eq_false, decide_true, decide_false, Bool.not_true, Bool.not_false, Bool.false_eq_true, false_and, and_false, not_true_eq_false, not_false_eq_true, ObA, hk]
  refine (make_new T.h48 T.h99 T.h130 (k := 8) hH2 (by omega) hf (by rw [hn]; omega)).use ?_
  rintro r M3 hw3 ⟨rfl, hH3, b3⟩
  have x3 := b3.get _ _ (fun e => e (.inr rfl)) x2
  have ne3 := hw3.ne x3
  have b4 := But.fill hw3 (.cells [.int 3 0, .int 3 0] false) (.cells [.int 3 8, .int 3 2] false)
  have w4 := hw3.fill (.cells [.int 3 0, .int 3 0] false) (.cells [.int 3 8, .int 3 2] false)
  have hH4 := hH3.wide b4 (q := M3.next) (Nat.le_refl _) (by show M3.next.num < M3.next.succ.num; rw [Pos.num_succ]; omega)
  rw [hn] at hH4
  have hWm : SW { takeG G with objs := upd G.objs 2 (some ⟨8, 1, [], 0, 0, 0⟩) } c [] := ⟨⟨o, by simp [upd, h1], hk, hc⟩, ⟨⟨8, 1, [], 0, 0, 0⟩, by simp [upd], rfl, rfl⟩, .inl hb, fun v hv => (by cases hv), (by simp only [cnt]; omega), hc2, fun x hx => by simp [upd, h1] at hx; subst hx; exact hs⟩
  obtain ⟨o2, k1, k2, k3⟩ := hWm.o2
  have hth := hWm.there
  simp only [go_sem, reduceCtorEq, Nat.reduceEqDiff, Nat.reduceAdd, Nat.reduceMul, Nat.reduceLeDiff, Nat.reduceSub, Nat.reduceLT, Nat.reduceBEq, Nat.reduceBNe, Int.reduceBEq, Int.reduceBNe, Int.reduceLT, Int.reduceLE, Int.reduceAdd, Int.reduceEq, Int.reduceNe, beq_self_eq_true, bne_self_eq_false, decide_true, decide_false, Bool.not_true, Bool.not_false, Bool.false_eq_true, false_and, and_false, not_true_eq_false, not_false_eq_true, VlA, hn, ne3, x3]
  refine (push_ok T.h68 T.h75 T.h77 T.h81 T.h85 T.h115 T.h117 T.h143 (v := fV) hH4 k1 (by rw [k2]; decide) hth (by rw [k3]; decide)).use ?_
  rintro r M5 hw5 ⟨rfl, hH5, b5⟩
  have hW5 := hWm.push k1 (v := fV) (.inl rfl) (by have e : cnt ([] ++ [fV]) = 1 := (by decide); rw [e]; omega)
  have x5 : M5.get M3.next = some (.cells [.int 3 8, .int 3 2] false) := b5.get _ _ (fun e => e (.inr rfl)) (by simp [Mem.put])
  have ne5 := hw5.ne x5
  have ne6 : (M3.next = M5.next.succ) = False := eq_false fun e => by have := hw5 _ _ x5; rw [e, Pos.num_succ] at this; omega
  have ne7 : (M5.next = M5.next.succ) = False := eq_false fun e => by have := congrArg Pos.num e; rw [Pos.num_succ] at this; omega
  simp only [go_sem, reduceCtorEq, Nat.reduceEqDiff, Nat.reduceAdd, Nat.reduceMul, Nat.reduceLeDiff, Nat.reduceSub, Nat.reduceLT, Nat.reduceBEq, Nat.reduceBNe, Int.reduceBEq, Int.reduceBNe, Int.reduceLT, Int.reduceLE, Int.reduceAdd, Int.reduceEq, Int.reduceNe, beq_self_eq_true, bne_self_eq_false, decide_true, decide_false, Bool.not_true, Bool.not_false, Bool.false_eq_true, false_and, and_false, not_true_eq_false, not_false_eq_true, make31', x5, ne5, ne6, ne7]
  obtain ⟨s6, b6⟩ := newStack (P := P) hw5 hH5 (fun p hp => .inl (.inl hp))
  have b35 := b5.mono (S' := fun p => ¬ P p) fun p hn hp => hn (.inl (.inl hp))
  have b33 := b3.mono (S' := fun p => ¬ P p) fun p hn hp => hn (.inl hp)
  refine ⟨by rw [Pos.num_succ, Pos.num_succ]; omega, M5.next, rfl, ⟨_, s6, hW5⟩, ((((b0.trans b2).any _).trans b33).trans (b4.any _)).trans (b35.trans (b6.any _)), .slice M5.next.succ 0 1 1, by rw [if_pos rfl]; rfl⟩
end Go.Proofs.Ythpnhdopheofcaa

end
section
namespace Go.Proofs.Ythpnhdopheofcaa
open Go.Dx
variable {tbl : Nat → Option CFunc}

theorem SW.good {G : Hp} {c : Int} {s : List Vl} (hW : SW G c s) {cs : List Fr} {f : Fr} (hl : s.length ≤ 2 ^ 30) (h0 : 0 ≤ f.base) (hb : f.base + 1 ≤ s.length) (hc : cs.length < 2 ^ 30) : ∃ o, Good G 2 cs f o ∧ o.slots = s := by
  obtain ⟨o, e1, e2, e3⟩ := hW.o2
  exact ⟨o, ⟨e1, e2, by rw [e3]; exact hl, h0, by rw [e3]; exact hb, hc⟩, e3⟩


/-- Push, in the world of one function. -/
theorem spush (T : SkT tbl) {M : Mem} {sp : Pos} {P : Pos → Prop} {cs : List Fr} {f : Fr} {G : Hp} {c : Int} {s : List Vl} {v : Vl} (hS : StackIs M sp P 2 (cs ++ [f]) G) (hW : SW G c s) (hl : s.length ≤ 2 ^ 30) (h0 : 0 ≤ f.base) (hb : f.base + 1 ≤ s.length) (hh : (s.length : Int) - f.base - 1 < 250) (hcs : cs.length < 2 ^ 30) (hv : v = fV ∨ plain v) (hc : cnt (s ++ [v]) < c) :
    CallW tbl 15 (.cons (.ptr sp 0) (.cons (VlA v) .nil)) M fun r M' => r = .ret (.int 3 0) ∧ (∃ G', StackIs M' sp P 2 (cs ++ [f]) G' ∧ SW G' c (s ++ [v])) ∧ But (fun p => ¬ P p) M M' ∧ ∀ hp, HpOf M sp hp → HpOf M' sp hp := by
  obtain ⟨o, hg, ho⟩ := hW.good hl h0 hb hcs
  have hth : thereV G v = true := by
    rcases hv with rfl | h
    · exact hW.there
    · exact h.there G
  refine (spush_ok T hg hS (by rw [ho]; exact hh) hth).mono ?_
  rintro r M' ⟨rfl, s1, b, b'⟩
  exact ⟨rfl, ⟨_, s1, by have := hW.push hg.obj (hv.imp id fun h => h.1) hc; exact this⟩, b, b'⟩

/-- Keep, of the function. -/
theorem hkeep (T : SkT tbl) {M : Mem} {sp hp : Pos} {cv : AV} {P : Pos → Prop} {calls : List Fr} {G : Hp} {c : Int} {s : List Vl} (hS : StackIs M sp P 2 calls G) (hz : M.get sp = spC hp 2 cv) (hW : SW G c s) (hc : 0 < c) (hc2 : c < 2 ^ 60) :
    CallW tbl 18 (.cons (.ptr hp 0) (.cons (VlA fV) .nil)) M fun r M' => r = .ret (.int 3 0) ∧ (∃ G', StackIs M' sp P 2 calls G' ∧ SW G' (c + 1) s) ∧ But (fun p => ¬ P p) M M' ∧ M'.get sp = spC hp 2 cv := by
  obtain ⟨own, Z, rfl, rfl, rfl, hP, hB, hH⟩ := hS.open_ hz
  obtain ⟨o, e1, e2, e3⟩ := hW.o1
  obtain ⟨o', e4, e5, e6⟩ := hW.o2
  refine (keep_yes T.h18 T.h71 T.h77 T.h81 T.h85 T.h115 T.h117 T.h143 (v := fV) hH refV_f e1 e2 (by omega) (by omega)).mono ?_
  rintro r M' ⟨rfl, hH', b⟩
  obtain ⟨s1, s2⟩ := StackIs.heap hP hB hH' b
  have hm := hW.more
  exact ⟨rfl, ⟨_, s1, ⟨{ o with count := o.count + 1 }, by simp [upd, fV], e2, by simp only [e3]⟩, ⟨o', by simp [upd, fV, e4], e5, e6⟩, hW.buf, hW.ok, by omega, by omega, fun x hx => by simp [upd, fV] at hx; subst hx; exact hW.flat o e1⟩, s2, b.get _ _ (fun e => e (.inr (by rw [hB.spo]; simp))) hz⟩

/-- A number. -/
def numV (n : Int) : Vl := ⟨3, n⟩
theorem num_plain (n : Int) : plain (numV n) := ⟨(by show (3 : Int) < 5; decide), (by show (3 : Int) ≠ 0; decide), rfl⟩
theorem number_spec (h : tbl 16 = some cf16) {M : Mem} (n : Int) : CallW tbl 16 (.cons (.int 3 n) .nil) M fun r M' => r = .ret (VlA (numV n)) ∧ But (fun _ => False) M M' := by
  refine CallW.wf fun hw => ?_
  refine CallW.intro h rfl (fr := .nod (.val .leaf (.int 3 n) .leaf) .leaf) rfl ?_
  simp only [go_sem, reduceCtorEq, Nat.reduceEqDiff, Nat.reduceAdd, Nat.reduceMul, Nat.reduceLeDiff, Nat.reduceSub, Nat.reduceLT, Nat.reduceBEq, Nat.reduceBNe, Int.reduceBEq, Int.reduceBNe, Int.reduceLT, Int.reduceLE, Int.reduceAdd, Int.reduceEq, Int.reduceNe, beq_self_eq_true, bne_self_eq_false, decide_true, decide_false, Bool.not_true, Bool.not_false, Bool.false_eq_true, false_and, and_false, not_true_eq_false, not_false_eq_true, cf16, VlA, numV]
  exact But.fill hw (.cells [.int 3 0, .int 3 0] false) (.cells [.int 3 3, .int 3 n] false)

/-- The beginning. -/
theorem begun_spec (T : SkT tbl) (h : tbl 14 = some cf14) {M : Mem} {P : Pos → Prop} (hP : ∀ p, P p → p.num < M.next.num) :
    CallW tbl 14 .nil M fun r M' => ∃ hp sp, r = .ret (.tuple (.cons (.ptr hp 0) (.cons (.ptr sp 0) (.cons (VlA fV) .nil)))) ∧ (∃ G', StackIs M' sp P 2 [⟨0, 0, []⟩] G' ∧ SW G' 2 [fV]) ∧ But (fun p => ¬ P p) M M' ∧ ∃ cv, M'.get sp = spC hp 2 cv := by
  refine CallW.wf fun hw => ?_
  refine CallW.intro h rfl (fr := .leaf) rfl ?_
  simp only [go_sem, reduceCtorEq, Nat.reduceEqDiff, Nat.reduceAdd, Nat.reduceMul, Nat.reduceLeDiff, Nat.reduceSub, Nat.reduceLT, Nat.reduceBEq, Nat.reduceBNe, Int.reduceBEq, Int.reduceBNe, Int.reduceLT, Int.reduceLE, Int.reduceAdd, Int.reduceEq, Int.reduceNe, beq_self_eq_true, bne_self_eq_false, decide_true, decide_false, Bool.not_true, Bool.not_false, Bool.false_eq_true, false_and, and_false, not_true_eq_false, not_false_eq_true, cf14]
  have b0 := But.new (S := fun _ => False) hw (.cells [.int 3 0, .int 3 0] false)
  have w0 := hw.new (.cells [.int 3 0, .int 3 0] false)
  have x0 : (M.new (.cells [.int 3 0, .int 3 0] false)).get M.next = some (.cells [.int 3 0, .int 3 0] false) := by simp only [go_sem, reduceCtorEq, Nat.reduceEqDiff, Nat.reduceAdd, Nat.reduceMul, Nat.reduceLeDiff, Nat.reduceSub, Nat.reduceLT, Nat.reduceBEq, Nat.reduceBNe, Int.reduceBEq, Int.reduceBNe, Int.reduceLT, Int.reduceLE, Int.reduceAdd, Int.reduceEq, Int.reduceNe, beq_self_eq_true, bne_self_eq_false, decide_true, decide_false, Bool.not_true, Bool.not_false, Bool.false_eq_true, false_and, and_false, not_true_eq_false, not_false_eq_true]
  refine (heapnew_spec T.h40 T.h84 (P := fun p => P p ∨ p = M.next) (fun p hp => by
    have hn : (M.new (.cells [.int 3 0, .int 3 0] false)).next = M.next.succ := rfl
    rw [hn, Pos.num_succ]
    rcases hp with hp | rfl
    · have := hP p hp; omega
    · omega)).use ?_
  rintro r M1 hw1 ⟨hp, rfl, hH1, b1, hlt⟩
  have x1 := b1.get _ _ id x0
  simp only [go_sem, reduceCtorEq, Nat.reduceEqDiff, Nat.reduceAdd, Nat.reduceMul, Nat.reduceLeDiff, Nat.reduceSub, Nat.reduceLT, Nat.reduceBEq, Nat.reduceBNe, Int.reduceBEq, Int.reduceBNe, Int.reduceLT, Int.reduceLE, Int.reduceAdd, Int.reduceEq, Int.reduceNe, beq_self_eq_true, bne_self_eq_false, decide_true, decide_false, Bool.not_true, Bool.not_false, Bool.false_eq_true, false_and, and_false, not_true_eq_false, not_false_eq_true]
  refine (make_new T.h48 T.h99 T.h130 (k := 7) hH1 (by omega) rfl (by decide)).use ?_
  have hG : G0.next = 1 := rfl
  rw [hG]
  rintro r M2 hw2 ⟨rfl, hH2, b2⟩
  have x2 := b2.get _ _ (fun e => e (.inr rfl)) x1
  have ne2 := hw2.ne x2
  simp only [go_sem, reduceCtorEq, Nat.reduceEqDiff, Nat.reduceAdd, Nat.reduceMul, Nat.reduceLeDiff, Nat.reduceSub, Nat.reduceLT, Nat.reduceBEq, Nat.reduceBNe, Int.reduceBEq, Int.reduceBNe, Int.reduceLT, Int.reduceLE, Int.reduceAdd, Int.reduceEq, Int.reduceNe, beq_self_eq_true, bne_self_eq_false, decide_true, decide_false, Bool.not_true, Bool.not_false, Bool.false_eq_true, false_and, and_false, not_true_eq_false, not_false_eq_true, VlA]
  have b3 := But.fill hw2 (.cells [.int 3 0, .int 3 0] false) (.cells [.int 3 7, .int 3 1] false)
  have w3 := hw2.fill (.cells [.int 3 0, .int 3 0] false) (.cells [.int 3 7, .int 3 1] false)
  have hH3 := hH2.wide b3 (q := M2.next) (Nat.le_refl _) (by show M2.next.num < M2.next.succ.num; rw [Pos.num_succ]; omega)
  have x3 := b3.get _ _ id x2
  refine (keep_yes T.h18 T.h71 T.h77 T.h81 T.h85 T.h115 T.h117 T.h143 (v := fV) hH3 refV_f (o := ⟨7, 1, [], 0, 0, 0⟩) (by simp [upd, fV]) rfl (by decide) (by decide)).use ?_
  rintro r M4 hw4 ⟨rfl, hH4, b4⟩
  have x4 := b4.get _ _ (fun e => e (.inl (.inr rfl))) x3
  have y3 : ((M2.new (.cells [.int 3 0, .int 3 0] false)).put M2.next (.cells [.int 3 7, .int 3 1] false)).get M2.next = some (.cells [.int 3 7, .int 3 1] false) := by simp [Mem.put]
  have y4 := b4.get _ _ (fun e => e (.inr rfl)) y3
  simp only [go_sem, reduceCtorEq, Nat.reduceEqDiff, Nat.reduceAdd, Nat.reduceMul, Nat.reduceLeDiff, Nat.reduceSub, Nat.reduceLT, Nat.reduceBEq, Nat.reduceBNe, Int.reduceBEq, Int.reduceBNe, Int.reduceLT, Int.reduceLE, Int.reduceAdd, Int.reduceEq, Int.reduceNe, beq_self_eq_true, bne_self_eq_false, decide_true, decide_false, Bool.not_true, Bool.not_false, Bool.false_eq_true, false_and, and_false, not_true_eq_false, not_false_eq_true, y4]
  refine (snew_spec T (c := 2) (o := ⟨7, 2, [], 0, 0, 0⟩) hH4 (by simp [upd, fV]) rfl rfl rfl (by decide) (by decide) (by simp [upd, fV, G0]) rfl rfl rfl).use ?_
  rintro r M5 hw5 ⟨sp, rfl, ⟨G5, hS5, hW5⟩, b5, cv, hz5⟩
  have x5 := b5.get _ _ (fun e => e (.inl (.inr rfl))) x4
  have y5 := b5.get _ _ (fun e => e (.inr rfl)) y4
  have nsp : ¬ (sp = M.next) := by
    obtain ⟨own, Z, rfl, k1, k2, k3⟩ := hS5
    intro e
    have e1 := k2.spo
    rw [e, (k1 M.next (.inl (.inr rfl))).1] at e1
    cases e1
  simp only [go_sem, reduceCtorEq, Nat.reduceEqDiff, Nat.reduceAdd, Nat.reduceMul, Nat.reduceLeDiff, Nat.reduceSub, Nat.reduceLT, Nat.reduceBEq, Nat.reduceBNe, Int.reduceBEq, Int.reduceBNe, Int.reduceLT, Int.reduceLE, Int.reduceAdd, Int.reduceEq, Int.reduceNe, beq_self_eq_true, bne_self_eq_false, decide_true, decide_false, Bool.not_true, Bool.not_false, Bool.false_eq_true, false_and, and_false, not_true_eq_false, not_false_eq_true, y5, x5]
  have bp : But (fun p => p = M.next) M5 (M5.put M.next (.cells [.int 3 7, .int 3 1] false)) := But.put (S := fun p => p = M.next) (p := M.next) _ rfl _
  have hS6 := (hS5.frame (bp.mono fun p e => .inl (.inr e))).less (Q := P) fun p hp => .inl (.inl hp)
  have hmn : ∀ p, p = M.next → ¬ P p := fun p e hp => by have := hP p hp; rw [e] at this; omega
  have t1 := ((b0.trans b1).any (fun p => ¬ P p)).trans (b2.mono fun p hn hp => hn (.inl hp))
  have t2 := (t1.trans (b3.any _)).trans ((b4.trans b5).mono fun p hn hp => hn (.inl (.inl hp)))
  exact ⟨hp, sp, rfl, ⟨G5, hS6, hW5⟩, t2.trans (bp.mono hmn), cv, by rw [if_neg nsp]; exact hz5⟩
end Go.Proofs.Ythpnhdopheofcaa

end
section
namespace Go.Proofs.Ythpnhdopheofcaa
open Go.Dx
variable {tbl : Nat → Option CFunc}

/-- The stack's world, since a memory. -/
structure WI (M0 M : Mem) (sp hp : Pos) (P : Pos → Prop) (calls : List Fr) (c : Int) (s : List Vl) : Prop where
  wf : M.wf
  st : ∃ G, StackIs M sp P 2 calls G ∧ SW G c s
  but : But (fun p => ¬ P p) M0 M
  hp : HpOf M sp hp
theorem WI.quiet {M0 M M' : Mem} {sp hp : Pos} {P : Pos → Prop} {calls : List Fr} {c : Int} {s : List Vl} (h : WI M0 M sp hp P calls c s) (hw : M'.wf) (b : But (fun _ => False) M M') : WI M0 M' sp hp P calls c s := by
  obtain ⟨G, h1, h2⟩ := h.st
  obtain ⟨co, cv, h3⟩ := h.hp
  exact ⟨hw, ⟨G, h1.quiet b, h2⟩, h.but.trans (b.any _), ⟨co, cv, b.get _ _ id h3⟩⟩
theorem WI.next {M0 M M' : Mem} {sp hp : Pos} {P : Pos → Prop} {calls calls' : List Fr} {c c' : Int} {s s' : List Vl} (h : WI M0 M sp hp P calls c s) (hw : M'.wf) (hs : ∃ G, StackIs M' sp P 2 calls' G ∧ SW G c' s') (b : But (fun p => ¬ P p) M M') (hh : ∀ hp, HpOf M sp hp → HpOf M' sp hp) : WI M0 M' sp hp P calls' c' s' :=
  ⟨hw, hs, h.but.trans b, hh _ h.hp⟩
theorem WI.spc {M0 M : Mem} {sp hp : Pos} {P : Pos → Prop} {calls : List Fr} {c : Int} {s : List Vl} (h : WI M0 M sp hp P calls c s) : ∃ cv, M.get sp = spC hp 2 cv := by
  obtain ⟨G, ⟨own, Z, rfl, h1, h2, h3⟩, _⟩ := h.st
  have e := h.hp.same (But.refl _ _) h2.spc
  subst e
  exact ⟨_, h2.spc⟩

/-- What the law's frame holds. -/
structure FI (fr : Tr AV) (sv : AV) (v : Int) (sp q hp : Pos) (n : Nat) (a b : Int) : Prop where
  f1 : fr.get (.o .h) = some sv
  f2 : fr.get (.o (.o .h)) = some (.int 3 v)
  f3 : fr.get (.o (.o (.i .h))) = some (.ptr sp 0)
  f4 : fr.get (.i (.o (.i .h))) = some (.ptr q 0)
  f5 : fr.get (.i (.i (.o .h))) = some (.ptr hp 0)
  f6 : fr.get (.o (.i (.i .h))) = some (.int 3 n)
  f7 : fr.get (.i (.o (.o .h))) = some (.int 4 a)
  f8 : fr.get (.o (.i (.o .h))) = some (.int 4 b)

theorem FI.set {fr : Tr AV} {sv : AV} {v : Int} {sp q hp : Pos} {n : Nat} {a b : Int} (h : FI fr sv v sp q hp n a b) (k : Pos) (x : AV) (hk : k ∉ [Pos.o .h, .o (.o .h), .o (.o (.i .h)), .i (.o (.i .h)), .i (.i (.o .h)), .o (.i (.i .h)), .i (.o (.o .h)), .o (.i (.o .h))]) : FI (Tr.set k x fr) sv v sp q hp n a b := by
  simp only [List.mem_cons, List.not_mem_nil, or_false, not_or] at hk
  obtain ⟨k1, k2, k3, k4, k5, k6, k7, k8⟩ := hk
  have e : ∀ j, ¬ (k = j) → Tr.get j (Tr.set k x fr) = Tr.get j fr := fun j hj => by rw [Tr.get_set, if_neg fun e => hj e.symm]
  exact ⟨by rw [e _ k1]; exact h.f1, by rw [e _ k2]; exact h.f2, by rw [e _ k3]; exact h.f3, by rw [e _ k4]; exact h.f4, by rw [e _ k5]; exact h.f5, by rw [e _ k6]; exact h.f6, by rw [e _ k7]; exact h.f7, by rw [e _ k8]; exact h.f8⟩

theorem cnt_plains {l : List Vl} (h : ∀ x ∈ l, plain x) : cnt l = 0 := by
  induction l with
  | nil => rfl
  | cons x l ih => simp only [cnt, (h x (List.mem_cons_self ..)).ne, if_false, ih fun y hy => h y (List.mem_cons_of_mem _ hy)]; rfl
theorem rem_nat {a : Int} {k : Int} {n : Nat} (h0 : 0 ≤ a) (hk : k ≠ 0) (hn : a % k = (n : Int)) : arithI .rem 4 a k = some (.int 4 (n : Int)) := by
  show (if k = 0 then none else some (AV.int 4 (a.tmod k))) = _
  rw [if_neg hk, Int.tmod_eq_emod_of_nonneg h0, hn]

set_option maxHeartbeats 4000000 in
theorem stackTries (T : SkT tbl) (h3 : tbl 3 = some cf3) (h13 : tbl 13 = some ⟨.skip, [], some (.bool true)⟩) (h14 : tbl 14 = some cf14) (h16 : tbl 16 = some cf16) {M : Mem} {sv : AV} {l : List Int} (hl : SlIs M sv 1 (IntL l)) {a b v : Int} (ha : 0 ≤ a ∧ a < 256) (hb : 0 ≤ b ∧ b < 256) :
    CallW tbl 3 (.cons sv (.cons (.agg (.cons (.int 4 a) (.cons (.int 4 b) .nil))) (.cons (.int 3 v) .nil))) M fun r _ => r = .ret (.bool true) := by
  refine CallW.wf fun hw => ?_
  refine CallW.intro h3 rfl (fr := .nod (.val (.val .leaf (.int 3 v) .leaf) sv .leaf) (.val .leaf (.agg (.cons (.int 4 a) (.cons (.int 4 b) .nil))) .leaf)) rfl ?_
  simp only [go_sem, reduceCtorEq, Nat.reduceEqDiff, Nat.reduceAdd, Nat.reduceMul, Nat.reduceLeDiff, Nat.reduceSub, Nat.reduceLT, Nat.reduceBEq, Nat.reduceBNe, Int.reduceBEq, Int.reduceBNe, Int.reduceLT, Int.reduceLE, Int.reduceAdd, Int.reduceEq, Int.reduceNe, beq_self_eq_true, bne_self_eq_false, decide_true, decide_false, Bool.not_true, Bool.not_false, Bool.false_eq_true, false_and, and_false, not_true_eq_false, not_false_eq_true, cf3]
  refine CallW.konst h13 rfl ?_
  have b0 := But.new (S := fun _ => False) hw (.cells [.int 4 a, .int 4 b] false)
  have w0 := hw.new (.cells [.int 4 a, .int 4 b] false)
  have hsl := hl.len
  rw [intL_len] at hsl
  simp only [go_sem, reduceCtorEq, Nat.reduceEqDiff, Nat.reduceAdd, Nat.reduceMul, Nat.reduceLeDiff, Nat.reduceSub, Nat.reduceLT, Nat.reduceBEq, Nat.reduceBNe, Int.reduceBEq, Int.reduceBNe, Int.reduceLT, Int.reduceLE, Int.reduceAdd, Int.reduceEq, Int.reduceNe, beq_self_eq_true, bne_self_eq_false, decide_true, decide_false, Bool.not_true, Bool.not_false, Bool.false_eq_true, false_and, and_false, not_true_eq_false, not_false_eq_true]
  generalize hM0 : M.new (.cells [.int 4 a, .int 4 b] false) = M0 at *
  refine (begun_spec T h14 (P := fun p => p.num < M0.next.num) (fun _ h => h)).use ?_
  rintro r M1 hw1 ⟨hp, sp, rfl, ⟨G1, hS1, hW1⟩, b1, cv1, hz1⟩
  have en : (if (100 : Int) < (l.length : Int) then (100 : Int) else (l.length : Int)) = ((min l.length 100 : Nat) : Int) := by split <;> omega
  have hn1 : min l.length 100 ≤ l.length := Nat.min_le_left _ _
  have hn2 : min l.length 100 ≤ 100 := Nat.min_le_right _ _
  generalize hn : min l.length 100 = n at *
  simp only [go_sem, reduceCtorEq, Nat.reduceEqDiff, Nat.reduceAdd, Nat.reduceMul, Nat.reduceLeDiff, Nat.reduceSub, Nat.reduceLT, Nat.reduceBEq, Nat.reduceBNe, Int.reduceBEq, Int.reduceBNe, Int.reduceLT, Int.reduceLE, Int.reduceAdd, Int.reduceEq, Int.reduceNe, beq_self_eq_true, bne_self_eq_false, decide_true, decide_false, Bool.not_true, Bool.not_false, Bool.false_eq_true, false_and, and_false, not_true_eq_false, not_false_eq_true, VlA, hsl, en]
  have b2 := But.fill hw1 (.cells [.int 3 0, .int 3 0] false) (.cells [.int 3 fV.k, .int 3 fV.n] false)
  have w2 := hw1.fill (.cells [.int 3 0, .int 3 0] false) (.cells [.int 3 fV.k, .int 3 fV.n] false)
  have hS2 := hS1.wide b2 (q := M1.next) (Nat.le_refl _) (by show M1.next.num < M1.next.succ.num; rw [Pos.num_succ]; omega)
  have x2 : ((M1.new (.cells [.int 3 0, .int 3 0] false)).put M1.next (.cells [.int 3 fV.k, .int 3 fV.n] false)).get M1.next = some (.cells [.int 3 fV.k, .int 3 fV.n] false) := by simp [Mem.put]
  have hz2 : HpOf ((M1.new (.cells [.int 3 0, .int 3 0] false)).put M1.next (.cells [.int 3 fV.k, .int 3 fV.n] false)) sp hp := ⟨2, cv1, b2.get _ _ id hz1⟩
  have hn0 := b1.next
  have hP0 : ∀ p : Pos, ¬ (p.num < M0.next.num) → M0.next.num ≤ p.num := fun p h => by omega
  have b02 := (b1.mono hP0).trans (b2.any _)
  have hP2 : ∀ p : Pos, ¬ (p.num < M0.next.num ∨ p = M1.next) → M0.next.num ≤ p.num := fun p h => by have := fun e => h (.inl e); omega
  generalize hM2 : (M1.new (.cells [.int 3 0, .int 3 0] false)).put M1.next (.cells [.int 3 fV.k, .int 3 fV.n] false) = M2 at *
  generalize hq : M1.next = q at *
  have i2 : WI M2 M2 sp hp (fun p => p.num < M0.next.num ∨ p = q) [⟨0, 0, []⟩] 2 [fV] := ⟨w2, ⟨G1, hS2, hW1⟩, But.refl _ _, hz2⟩
  have old : ∀ {M' : Mem} {calls : List Fr} {c : Int} {s : List Vl}, WI M2 M' sp hp (fun p => p.num < M0.next.num ∨ p = q) calls c s → SlIs M' sv 1 (IntL l) ∧ M'.get q = some (.cells [.int 3 fV.k, .int 3 fV.n] false) := fun h =>
    ⟨hl.old (b0.trans (But.fresh w0 ((b02.mono fun p h => .inr h).trans ((h.but.mono hP2).mono fun p h => .inr h)))).old, h.but.get _ _ (fun e => e (.inr rfl)) x2⟩
  have hfr : FI ((((Tr.leaf.val (AV.bool false) Tr.leaf).val (AV.int 3 v) (Tr.leaf.val (AV.ptr sp 0) Tr.leaf)).val sv ((Tr.leaf.val (AV.int 4 b) (Tr.leaf.val (AV.bool false) Tr.leaf)).val (AV.ptr M.next 0) (Tr.leaf.val (AV.int 3 n) Tr.leaf))).nod (((Tr.leaf.val (AV.int 4 a) Tr.leaf).nod (Tr.leaf.val (AV.ptr q 0) Tr.leaf)).val ((AV.int 4 a).cons ((AV.int 4 b).cons AV.nil)).agg ((Tr.leaf.val (AV.ptr hp 0) Tr.leaf).nod (Tr.leaf.val (AV.int 3 0) Tr.leaf)))) sv v sp q hp n a b := ⟨rfl, rfl, rfl, rfl, rfl, rfl, rfl, rfl⟩
  refine loop_wp (I := fun m fr M' => m ≤ n ∧ WI M2 M' sp hp (fun p => p.num < M0.next.num ∨ p = q) [⟨0, 0, []⟩] 2 (fV :: (l.take (n - m)).map numV) ∧ FI fr sv v sp q hp n a b ∧ fr.get (.i (.i (.i .h))) = some (.int 3 ((n - m : Nat) : Int))) (n := n) ?_ ?_
  · exact ⟨Nat.le_refl _, by rw [Nat.sub_self]; simpa using i2, hfr, by rw [Nat.sub_self]; rfl⟩
  · rintro m fr M' ⟨j1, j2, j3, j4⟩
    have ⟨f1, f2, f3, f4, f5, f6, f7, f8⟩ := j3
    have ⟨hsl', hx'⟩ := old j2
    cases m with
    | succ m =>
      have g : decide (((n - (m + 1) : Nat) : Int) < (n : Int)) = true := by simp only [decide_eq_true_eq]; omega
      obtain ⟨p, po, pn, a1, a2, a3⟩ := int_at hsl' (i := n - (m + 1)) (by omega)
      simp only [go_sem, reduceCtorEq, Nat.reduceEqDiff, Nat.reduceAdd, Nat.reduceMul, Nat.reduceLeDiff, Nat.reduceSub, Nat.reduceLT, Nat.reduceBEq, Nat.reduceBNe, Int.reduceBEq, Int.reduceBNe, Int.reduceLT, Int.reduceLE, Int.reduceAdd, Int.reduceEq, Int.reduceNe, beq_self_eq_true, bne_self_eq_false, decide_true, decide_false, Bool.not_true, Bool.not_false, Bool.false_eq_true, false_and, and_false, not_true_eq_false, not_false_eq_true, f1, f3, f6, j4, g, a1, a2, a3]
      refine (number_spec h16 _).use ?_
      rintro r M4 hw4 ⟨rfl, b4⟩
      have j5 := j2.quiet hw4 b4
      obtain ⟨G5, s5, w5⟩ := j5.st
      have hlen : (fV :: (l.take (n - (m + 1))).map numV).length = n - (m + 1) + 1 := by simp only [List.length_append, List.length_map, List.length_take, List.length_cons, List.length_nil]; omega
      simp only [go_sem, reduceCtorEq, Nat.reduceEqDiff, Nat.reduceAdd, Nat.reduceMul, Nat.reduceLeDiff, Nat.reduceSub, Nat.reduceLT, Nat.reduceBEq, Nat.reduceBNe, Int.reduceBEq, Int.reduceBNe, Int.reduceLT, Int.reduceLE, Int.reduceAdd, Int.reduceEq, Int.reduceNe, beq_self_eq_true, bne_self_eq_false, decide_true, decide_false, Bool.not_true, Bool.not_false, Bool.false_eq_true, false_and, and_false, not_true_eq_false, not_false_eq_true]
      refine (spush T (cs := []) (f := ⟨0, 0, []⟩) s5 w5 (by rw [hlen]; omega) (by decide) (by rw [hlen]; show (0 : Int) + 1 ≤ _; omega) (by rw [hlen]; show _ - (0 : Int) - 1 < 250; omega) (by decide) (.inr (num_plain _)) (by rw [(num_plain _).cnt_]; exact w5.more)).use ?_
      rintro r M6 hw6 ⟨rfl, s6, b6, hh6⟩
      have j6 := j5.next hw6 s6 b6 hh6
      have e1 : IntKind.i64.wrap (((n - (m + 1) : Nat) : Int) + 1) = ((n - m : Nat) : Int) := by rw [wrap64 (by omega) (by omega)]; omega
      simp only [go_sem, reduceCtorEq, Nat.reduceEqDiff, Nat.reduceAdd, Nat.reduceMul, Nat.reduceLeDiff, Nat.reduceSub, Nat.reduceLT, Nat.reduceBEq, Nat.reduceBNe, Int.reduceBEq, Int.reduceBNe, Int.reduceLT, Int.reduceLE, Int.reduceAdd, Int.reduceEq, Int.reduceNe, beq_self_eq_true, bne_self_eq_false, decide_true, decide_false, Bool.not_true, Bool.not_false, Bool.false_eq_true, false_and, and_false, not_true_eq_false, not_false_eq_true, j4, e1]
      refine ⟨m, by omega, by omega, ?_, (j3.set _ _ (by decide)).set _ _ (by decide), by rw [Tr.get_set]; rfl⟩
      have e2 : n - m = n - (m + 1) + 1 := by omega
      rw [e2, List.take_succ_eq_append_getElem (by omega), List.map_append]
      exact j6
    | zero =>
      have g : decide (((n - 0 : Nat) : Int) < (n : Int)) = false := by simp only [decide_eq_false_iff_not]; omega
      simp only [go_sem, reduceCtorEq, Nat.reduceEqDiff, Nat.reduceAdd, Nat.reduceMul, Nat.reduceLeDiff, Nat.reduceSub, Nat.reduceLT, Nat.reduceBEq, Nat.reduceBNe, Int.reduceBEq, Int.reduceBNe, Int.reduceLT, Int.reduceLE, Int.reduceAdd, Int.reduceEq, Int.reduceNe, beq_self_eq_true, bne_self_eq_false, decide_true, decide_false, Bool.not_true, Bool.not_false, Bool.false_eq_true, false_and, and_false, not_true_eq_false, not_false_eq_true, f1, f3, f6, j4, g]
      rw [Nat.sub_zero] at j2
      have hs1 : (fV :: (l.take n).map numV).length = n + 1 := by simp only [List.length_cons, List.length_map, List.length_take]; omega
      have hc1 : cnt (fV :: (l.take n).map numV) = 1 := by
        have : cnt ((l.take n).map numV) = 0 := cnt_plains fun x hx => by obtain ⟨y, _, rfl⟩ := List.mem_map.1 hx; exact num_plain y
        simp only [cnt, this, if_true]; rfl
      have hg1 : ∀ i (hi : i < n), (fV :: (l.take n).map numV)[i + 1]? = some (numV (l[i]'(Nat.lt_of_lt_of_le hi hn1))) := by
        intro i hi
        rw [List.getElem?_cons_succ, List.getElem?_map, List.getElem?_take, if_pos hi, List.getElem?_eq_getElem (Nat.lt_of_lt_of_le hi hn1)]
        rfl
      generalize hss : fV :: (l.take n).map numV = s1 at *
      obtain ⟨G3, s3, w3⟩ := j2.st
      obtain ⟨o3, g3, ho3⟩ := w3.good (cs := []) (f := ⟨0, 0, []⟩) (by omega) (Int.le_refl _) (by show (0 : Int) + 1 ≤ _; omega) (by decide)
      refine (try_spec T (cs := []) (f := ⟨0, 0, []⟩) g3 s3 (tg := 3) (by decide) (by decide)).use ?_
      rintro r M5 hw5 ⟨rfl, s5, b5, hh5⟩
      have e5 : (o3.slots.length : Int) - (⟨0, 0, []⟩ : Fr).base - 1 = (n : Int) := by rw [ho3, hs1]; show ((n + 1 : Nat) : Int) - 0 - 1 = _; omega
      rw [e5] at s5
      have j5 := j2.next hw5 ⟨G3, s5, w3⟩ b5 hh5
      simp only [List.nil_append] at j5
      have j3' := j3.set (.i (.o (.i (.o (.o .h))))) (.bool false) (by decide)
      have hna : ∃ na : Nat, a % 100 = (na : Int) ∧ na < 100 := ⟨(a % 100).toNat, by omega, by omega⟩
      obtain ⟨na, ena, hna⟩ := hna
      have hnb : ∃ nb : Nat, b % 90 = (nb : Int) ∧ nb < 90 := ⟨(b % 90).toNat, by omega, by omega⟩
      obtain ⟨nb, enb, hnb⟩ := hnb
      have ewa : (kindOf 3).wrap (na : Int) = na := wrap64 (by omega) (by omega)
      have ewb : (kindOf 3).wrap (nb : Int) = nb := wrap64 (by omega) (by omega)
      simp only [go_sem, reduceCtorEq, Nat.reduceEqDiff, Nat.reduceAdd, Nat.reduceMul, Nat.reduceLeDiff, Nat.reduceSub, Nat.reduceLT, Nat.reduceBEq, Nat.reduceBNe, Int.reduceBEq, Int.reduceBNe, Int.reduceLT, Int.reduceLE, Int.reduceAdd, Int.reduceEq, Int.reduceNe, beq_self_eq_true, bne_self_eq_false, decide_true, decide_false, Bool.not_true, Bool.not_false, Bool.false_eq_true, false_and, and_false, not_true_eq_false, not_false_eq_true]
      refine loop_wp (I := fun m fr M' => m ≤ na ∧ WI M2 M' sp hp (fun p => p.num < M0.next.num ∨ p = q) [⟨0, 0, [((n : Nat), 3)]⟩] 2 (s1 ++ List.replicate (na - m) (numV 1)) ∧ FI fr sv v sp q hp n a b ∧ fr.get (.o (.o (.o (.o .h)))) = some (.int 3 ((na - m : Nat) : Int))) (n := na) ?_ ?_
      · exact ⟨Nat.le_refl _, by rw [Nat.sub_self]; simpa using j5, j3'.set _ _ (by decide), by rw [Nat.sub_self]; rw [Tr.get_set]; rfl⟩
      · rintro m fr M' ⟨k1, k2, k3, k4⟩
        have ⟨f1, f2, f3, f4, f5, f6, f7, f8⟩ := k3
        cases m with
        | succ m =>
          have g2 : decide (((na - (m + 1) : Nat) : Int) < (na : Int)) = true := by simp only [decide_eq_true_eq]; omega
          simp only [go_sem, reduceCtorEq, Nat.reduceEqDiff, Nat.reduceAdd, Nat.reduceMul, Nat.reduceLeDiff, Nat.reduceSub, Nat.reduceLT, Nat.reduceBEq, Nat.reduceBNe, Int.reduceBEq, Int.reduceBNe, Int.reduceLT, Int.reduceLE, Int.reduceAdd, Int.reduceEq, Int.reduceNe, beq_self_eq_true, bne_self_eq_false, decide_true, decide_false, Bool.not_true, Bool.not_false, Bool.false_eq_true, false_and, and_false, not_true_eq_false, not_false_eq_true, f1, f3, f6, f7, k4, rem_nat ha.1 (by decide) ena, ewa, g2]
          refine (number_spec h16 _).use ?_
          rintro r M6 hw6 ⟨rfl, b6⟩
          have k5 := k2.quiet hw6 b6
          obtain ⟨G5, s5, w5⟩ := k5.st
          have hlen : (s1 ++ List.replicate (na - (m + 1)) (numV 1)).length = n + 1 + (na - (m + 1)) := by rw [List.length_append, List.length_replicate, hs1]
          simp only [go_sem, reduceCtorEq, Nat.reduceEqDiff, Nat.reduceAdd, Nat.reduceMul, Nat.reduceLeDiff, Nat.reduceSub, Nat.reduceLT, Nat.reduceBEq, Nat.reduceBNe, Int.reduceBEq, Int.reduceBNe, Int.reduceLT, Int.reduceLE, Int.reduceAdd, Int.reduceEq, Int.reduceNe, beq_self_eq_true, bne_self_eq_false, decide_true, decide_false, Bool.not_true, Bool.not_false, Bool.false_eq_true, false_and, and_false, not_true_eq_false, not_false_eq_true]
          refine (spush T (cs := []) (f := ⟨0, 0, [((n : Nat), 3)]⟩) s5 w5 (by rw [hlen]; omega) (Int.le_refl _) (by rw [hlen]; show (0 : Int) + 1 ≤ _; omega) (by rw [hlen]; show _ - (0 : Int) - 1 < 250; omega) (by decide) (.inr (num_plain _)) (by rw [(num_plain _).cnt_]; exact w5.more)).use ?_
          rintro r M7 hw7 ⟨rfl, s7, b7, hh7⟩
          have k7 := k5.next hw7 s7 b7 hh7
          have e1 : IntKind.i64.wrap (((na - (m + 1) : Nat) : Int) + 1) = ((na - m : Nat) : Int) := by rw [wrap64 (by omega) (by omega)]; omega
          simp only [go_sem, reduceCtorEq, Nat.reduceEqDiff, Nat.reduceAdd, Nat.reduceMul, Nat.reduceLeDiff, Nat.reduceSub, Nat.reduceLT, Nat.reduceBEq, Nat.reduceBNe, Int.reduceBEq, Int.reduceBNe, Int.reduceLT, Int.reduceLE, Int.reduceAdd, Int.reduceEq, Int.reduceNe, beq_self_eq_true, bne_self_eq_false, decide_true, decide_false, Bool.not_true, Bool.not_false, Bool.false_eq_true, false_and, and_false, not_true_eq_false, not_false_eq_true, k4, e1]
          refine ⟨m, by omega, by omega, ?_, (k3.set _ _ (by decide)).set _ _ (by decide), by rw [Tr.get_set]; rfl⟩
          have e2 : na - m = na - (m + 1) + 1 := by omega
          rw [e2, List.replicate_succ', ← List.append_assoc]
          exact k7
        | zero =>
          have g2 : decide (((na - 0 : Nat) : Int) < (na : Int)) = false := by simp only [decide_eq_false_iff_not]; omega
          rw [Nat.sub_zero] at k2
          have hs2 : (s1 ++ List.replicate na (numV 1)).length = n + 1 + na := by rw [List.length_append, List.length_replicate, hs1]
          have hc2 : cnt (s1 ++ List.replicate na (numV 1)) = 1 := by
            rw [cnt_app, hc1, cnt_plains fun x hx => by rw [List.eq_of_mem_replicate hx]; exact num_plain 1]; rfl
          have ht2 : (s1 ++ List.replicate na (numV 1)).take (n + 1) = s1 := by rw [← hs1, List.take_left]
          generalize hss2 : s1 ++ List.replicate na (numV 1) = s2 at *
          have k3' := k3.set (.i (.o (.i (.o (.i .h))))) (.bool false) (by decide)
          simp only [go_sem, reduceCtorEq, Nat.reduceEqDiff, Nat.reduceAdd, Nat.reduceMul, Nat.reduceLeDiff, Nat.reduceSub, Nat.reduceLT, Nat.reduceBEq, Nat.reduceBNe, Int.reduceBEq, Int.reduceBNe, Int.reduceLT, Int.reduceLE, Int.reduceAdd, Int.reduceEq, Int.reduceNe, beq_self_eq_true, bne_self_eq_false, decide_true, decide_false, Bool.not_true, Bool.not_false, Bool.false_eq_true, false_and, and_false, not_true_eq_false, not_false_eq_true, f1, f3, f6, f7, k4, rem_nat ha.1 (by decide) ena, ewa, g2]
          refine loop_wp (I := fun m fr M' => m ≤ nb ∧ (∃ (csl : List Fr) (fl : Fr) (bs : Nat) (post : List Fr) (ext : List Vl), (⟨0, 0, [((n : Nat), 3)]⟩ : Fr) :: post = csl ++ [fl] ∧ fl.base = bs ∧ bs + 1 ≤ (s2 ++ ext).length ∧ (s2 ++ ext).length ≤ bs + 220 ∧ csl.length = nb - m ∧ (∀ g ∈ post, g.tries = []) ∧ ext.length = 2 * (nb - m) ∧ cnt ext = ((nb - m : Nat) : Int) ∧
              WI M2 M' sp hp (fun p => p.num < M0.next.num ∨ p = q) (csl ++ [fl]) (2 + ((nb - m : Nat) : Int)) (s2 ++ ext)) ∧ FI fr sv v sp q hp n a b ∧ fr.get (.i (.o (.o (.o .h)))) = some (.int 3 ((nb - m : Nat) : Int))) (n := nb) ?_ ?_
          · refine ⟨Nat.le_refl _, ⟨[], _, 0, [], [], rfl, rfl, ?_, ?_, ?_, ?_, ?_, ?_, ?_⟩, k3'.set _ _ (by decide), by rw [Nat.sub_self]; rw [Tr.get_set]; rfl⟩
            · rw [List.append_nil, hs2]; omega
            · rw [List.append_nil, hs2]; omega
            · rw [Nat.sub_self]; rfl
            · intro g hg; cases hg
            · rw [Nat.sub_self]; rfl
            · rw [Nat.sub_self]; rfl
            · rw [Nat.sub_self, List.append_nil]; exact k2
          · rintro m fr M' ⟨l1, ⟨csl, fl, bs, post, ext, e0, e1, e2, e3, e4, e5, e6, e7, l2⟩, l3, l4⟩
            have ⟨f1, f2, f3, f4, f5, f6, f7, f8⟩ := l3
            cases m with
            | succ m =>
              have g2 : decide (((nb - (m + 1) : Nat) : Int) < (nb : Int)) = true := by simp only [decide_eq_true_eq]; omega
              have hx := (old l2).2
              simp only [go_sem, reduceCtorEq, Nat.reduceEqDiff, Nat.reduceAdd, Nat.reduceMul, Nat.reduceLeDiff, Nat.reduceSub, Nat.reduceLT, Nat.reduceBEq, Nat.reduceBNe, Int.reduceBEq, Int.reduceBNe, Int.reduceLT, Int.reduceLE, Int.reduceAdd, Int.reduceEq, Int.reduceNe, beq_self_eq_true, bne_self_eq_false, decide_true, decide_false, Bool.not_true, Bool.not_false, Bool.false_eq_true, false_and, and_false, not_true_eq_false, not_false_eq_true, f3, f4, f5, f8, l4, rem_nat hb.1 (by decide) enb, ewb, g2, hx]
              obtain ⟨cv, hz⟩ := l2.spc
              obtain ⟨G5, s5, w5⟩ := l2.st
              refine (hkeep T s5 hz w5 (by omega) (by omega)).use ?_
              rintro r M6 hw6 ⟨rfl, s6, b6, hz6⟩
              have l6 := l2.next hw6 s6 b6 (fun hp' h' => by have e := h'.same (But.refl _ _) hz; subst e; exact ⟨_, _, hz6⟩)
              have hx6 := (old l6).2
              simp only [go_sem, reduceCtorEq, Nat.reduceEqDiff, Nat.reduceAdd, Nat.reduceMul, Nat.reduceLeDiff, Nat.reduceSub, Nat.reduceLT, Nat.reduceBEq, Nat.reduceBNe, Int.reduceBEq, Int.reduceBNe, Int.reduceLT, Int.reduceLE, Int.reduceAdd, Int.reduceEq, Int.reduceNe, beq_self_eq_true, bne_self_eq_false, decide_true, decide_false, Bool.not_true, Bool.not_false, Bool.false_eq_true, false_and, and_false, not_true_eq_false, not_false_eq_true, f3, f4, hx6]
              obtain ⟨G6, s6', w6⟩ := l6.st
              have hcs : cnt (s2 ++ ext) = 1 + ((nb - (m + 1) : Nat) : Int) := by rw [cnt_app, hc2, e7]
              have hle : (s2 ++ ext).length = n + 1 + na + 2 * (nb - (m + 1)) := by rw [List.length_append, hs2, e6]
              have hf1 : cnt [fV] = 1 := by decide
              refine (spush T (v := fV) s6' w6 (by omega) (by omega) (by omega) (by omega) (by omega) (.inl rfl) (by rw [cnt_app, hcs, hf1]; omega)).use ?_
              rintro r M7 hw7 ⟨rfl, s7, b7, hh7⟩
              have l7 := l6.next hw7 s7 b7 hh7
              obtain ⟨G7, s7', w7⟩ := l7.st
              have hle7 : (s2 ++ ext ++ [fV]).length = (s2 ++ ext).length + 1 := by rw [List.length_append]; rfl
              obtain ⟨o7, g7, ho7⟩ := w7.good (cs := csl) (f := fl) (by omega) (by omega) (by omega) (by omega)
              simp only [go_sem, reduceCtorEq, Nat.reduceEqDiff, Nat.reduceAdd, Nat.reduceMul, Nat.reduceLeDiff, Nat.reduceSub, Nat.reduceLT, Nat.reduceBEq, Nat.reduceBNe, Int.reduceBEq, Int.reduceBNe, Int.reduceLT, Int.reduceLE, Int.reduceAdd, Int.reduceEq, Int.reduceNe, beq_self_eq_true, bne_self_eq_false, decide_true, decide_false, Bool.not_true, Bool.not_false, Bool.false_eq_true, false_and, and_false, not_true_eq_false, not_false_eq_true, f3]
              refine (enter_spec T (a := 0) (q := 1) g7 s7' w7 ho7 e1 (by omega) (by omega) (fun x hx => by
                rw [hle7, show (s2 ++ ext).length + 1 - 1 - 0 = (s2 ++ ext).length by omega, List.getElem?_append_right (Nat.le_refl _), Nat.sub_self] at hx
                simp at hx
                rw [← hx]; rfl) (by omega) (by omega)).use ?_
              rintro r M8 hw8 ⟨rfl, s8, b8, hh8⟩
              rw [List.drop_eq_nil_of_le (by omega), List.take_of_length_le (by omega)] at s8
              have l8 := l7.next hw8 s8 b8 hh8
              have e9 : IntKind.i64.wrap (((nb - (m + 1) : Nat) : Int) + 1) = ((nb - m : Nat) : Int) := by rw [wrap64 (by omega) (by omega)]; omega
              simp only [go_sem, reduceCtorEq, Nat.reduceEqDiff, Nat.reduceAdd, Nat.reduceMul, Nat.reduceLeDiff, Nat.reduceSub, Nat.reduceLT, Nat.reduceBEq, Nat.reduceBNe, Int.reduceBEq, Int.reduceBNe, Int.reduceLT, Int.reduceLE, Int.reduceAdd, Int.reduceEq, Int.reduceNe, beq_self_eq_true, bne_self_eq_false, decide_true, decide_false, Bool.not_true, Bool.not_false, Bool.false_eq_true, false_and, and_false, not_true_eq_false, not_false_eq_true, l4, e9]
              have hC : 2 + ((nb - (m + 1) : Nat) : Int) + 1 - cnt [] = 2 + ((nb - m : Nat) : Int) := by simp only [cnt]; omega
              have hL : s2 ++ ext ++ [fV] ++ List.replicate (1 - 0) nilV = s2 ++ (ext ++ [fV, nilV]) := by simp [List.replicate]
              have hk2 : cnt [fV, nilV] = 1 := by decide
              rw [hC, hL] at l8
              refine ⟨m, by omega, by omega, ⟨csl ++ [fl], ⟨(((s2 ++ ext ++ [fV]).length - 1 - 0 : Nat) : Int), 0, []⟩, (s2 ++ ext ++ [fV]).length - 1 - 0, post ++ [⟨(((s2 ++ ext ++ [fV]).length - 1 - 0 : Nat) : Int), 0, []⟩], ext ++ [fV, nilV], by rw [← List.cons_append, e0], rfl, ?_, ?_, ?_, ?_, ?_, ?_, l8⟩, ((l3.set _ _ (by decide)).set _ _ (by decide)).set _ _ (by decide), by rw [Tr.get_set]; rfl⟩
              · simp only [List.length_append, List.length_cons, List.length_nil]; omega
              · simp only [List.length_append, List.length_cons, List.length_nil]; omega
              · rw [List.length_append, e4]; show _ + 1 = _; omega
              · intro g hg
                rcases List.mem_append.1 hg with h | h
                · exact e5 g h
                · rw [List.mem_singleton.1 h]
              · rw [List.length_append, e6]; show _ + 2 = _; omega
              · rw [cnt_app, e7, hk2]; omega
            | zero =>
              have g2 : decide (((nb - 0 : Nat) : Int) < (nb : Int)) = false := by simp only [decide_eq_false_iff_not]; omega
              rw [Nat.sub_zero] at e4 e6 e7 l2
              simp only [go_sem, reduceCtorEq, Nat.reduceEqDiff, Nat.reduceAdd, Nat.reduceMul, Nat.reduceLeDiff, Nat.reduceSub, Nat.reduceLT, Nat.reduceBEq, Nat.reduceBNe, Int.reduceBEq, Int.reduceBNe, Int.reduceLT, Int.reduceLE, Int.reduceAdd, Int.reduceEq, Int.reduceNe, beq_self_eq_true, bne_self_eq_false, decide_true, decide_false, Bool.not_true, Bool.not_false, Bool.false_eq_true, false_and, and_false, not_true_eq_false, not_false_eq_true, f2, f3, f4, f5, f8, l4, rem_nat hb.1 (by decide) enb, ewb, g2]
              refine (number_spec h16 _).use ?_
              rintro r M5 hw5 ⟨rfl, b5⟩
              have l5 := l2.quiet hw5 b5
              have hcs : cnt (s2 ++ ext) = 1 + (nb : Int) := by rw [cnt_app, hc2, e7]
              have hle : (s2 ++ ext).length = n + 1 + na + 2 * nb := by rw [List.length_append, hs2, e6]
              have ht3 : (s2 ++ ext).take (0 + 1 + n) = s1 := by rw [List.take_append_of_le_length (by omega), Nat.zero_add, Nat.add_comm 1 n, ht2]
              have hd3 : cnt ((s2 ++ ext).drop (0 + 1 + n)) = (nb : Int) := by
                have h := cnt_app ((s2 ++ ext).take (0 + 1 + n)) ((s2 ++ ext).drop (0 + 1 + n))
                rw [List.take_append_drop, hcs, ht3, hc1] at h
                omega
              obtain ⟨G5, s5, w5⟩ := l5.st
              obtain ⟨o5, g5, ho5⟩ := w5.good (cs := csl) (f := fl) (by omega) (by omega) (by omega) (by omega)
              have e0' : [] ++ [(⟨0, 0, [((n : Nat), 3)]⟩ : Fr)] ++ post = csl ++ [fl] := e0
              rw [← e0'] at s5
              simp only [go_sem, reduceCtorEq, Nat.reduceEqDiff, Nat.reduceAdd, Nat.reduceMul, Nat.reduceLeDiff, Nat.reduceSub, Nat.reduceLT, Nat.reduceBEq, Nat.reduceBNe, Int.reduceBEq, Int.reduceBNe, Int.reduceLT, Int.reduceLE, Int.reduceAdd, Int.reduceEq, Int.reduceNe, beq_self_eq_true, bne_self_eq_false, decide_true, decide_false, Bool.not_true, Bool.not_false, Bool.false_eq_true, false_and, and_false, not_true_eq_false, not_false_eq_true, f3]
              refine (throw_caught T (cs := []) (f := ⟨0, 0, [((n : Nat), 3)]⟩) (ts := []) (hh := n) (tg := 3) (v := numV v) e0' g5 s5 w5 (num_plain v) e5 rfl (by show (1 : Nat) < 2 ^ 30; decide) (bs := 0) rfl (by omega)).use ?_
              rintro r M6 hw6 ⟨rfl, s6, b6, hh6⟩
              rw [← e0'] at l5
              have l6 := l5.next hw6 s6 b6 hh6
              rw [ht3, hd3, show 2 + (nb : Int) - nb = 2 by omega] at l6
              simp only [List.nil_append] at l6
              have hls : (s1 ++ [numV v]).length = n + 2 := by rw [List.length_append, hs1]; rfl
              obtain ⟨G7, s7, w7⟩ := l6.st
              obtain ⟨o7, g7, ho7⟩ := w7.good (cs := []) (f := ⟨0, 3, []⟩) (by rw [hls]; omega) (Int.le_refl _) (by rw [hls]; show (0 : Int) + 1 ≤ _; omega) (by decide)
              have hbase : (⟨0, 3, []⟩ : Fr).base = 0 := rfl
              simp only [go_sem, reduceCtorEq, Nat.reduceEqDiff, Nat.reduceAdd, Nat.reduceMul, Nat.reduceLeDiff, Nat.reduceSub, Nat.reduceLT, Nat.reduceBEq, Nat.reduceBNe, Int.reduceBEq, Int.reduceBNe, Int.reduceLT, Int.reduceLE, Int.reduceAdd, Int.reduceEq, Int.reduceNe, beq_self_eq_true, bne_self_eq_false, decide_true, decide_false, Bool.not_true, Bool.not_false, Bool.false_eq_true, false_and, and_false, not_true_eq_false, not_false_eq_true, f3]
              refine (height_spec T (cs := []) g7 s7).use ?_
              rintro r M8 hw8 ⟨rfl, b8⟩
              have eh : (o7.slots.length : Int) - (⟨0, 3, []⟩ : Fr).base - 1 = (n : Int) + 1 := by rw [ho7, hls, hbase]; omega
              rw [eh]
              have e8 : IntKind.i64.wrap ((n : Int) + 1) = (n : Int) + 1 := wrap64 (by omega) (by omega)
              have g8 : (((n : Int) + 1) != (n : Int) + 1) = false := by simp
              simp only [go_sem, reduceCtorEq, Nat.reduceEqDiff, Nat.reduceAdd, Nat.reduceMul, Nat.reduceLeDiff, Nat.reduceSub, Nat.reduceLT, Nat.reduceBEq, Nat.reduceBNe, Int.reduceBEq, Int.reduceBNe, Int.reduceLT, Int.reduceLE, Int.reduceAdd, Int.reduceEq, Int.reduceNe, beq_self_eq_true, bne_self_eq_false, decide_true, decide_false, Bool.not_true, Bool.not_false, Bool.false_eq_true, false_and, and_false, not_true_eq_false, not_false_eq_true, f3, f6, e8, g8]
              have hj : n + 1 < o7.slots.length := by rw [ho7, hls]; omega
              refine (reg_spec T (cs := []) g7 (s7.quiet b8) (a := (n : Int)) (j := n + 1) hj (by omega) (by rw [hbase]; omega)).use ?_
              rintro r M9 hw9 ⟨rfl, b9⟩
              have hv9 : o7.slots[n + 1] = numV v := by simp [ho7, hs1]
              rw [hv9]
              simp only [go_sem, reduceCtorEq, Nat.reduceEqDiff, Nat.reduceAdd, Nat.reduceMul, Nat.reduceLeDiff, Nat.reduceSub, Nat.reduceLT, Nat.reduceBEq, Nat.reduceBNe, Int.reduceBEq, Int.reduceBNe, Int.reduceLT, Int.reduceLE, Int.reduceAdd, Int.reduceEq, Int.reduceNe, beq_self_eq_true, bne_self_eq_false, decide_true, decide_false, Bool.not_true, Bool.not_false, Bool.false_eq_true, false_and, and_false, not_true_eq_false, not_false_eq_true, f2]
              refine (number_spec h16 _).use ?_
              rintro r M10 hw10 ⟨rfl, b10⟩
              simp only [go_sem, reduceCtorEq, Nat.reduceEqDiff, Nat.reduceAdd, Nat.reduceMul, Nat.reduceLeDiff, Nat.reduceSub, Nat.reduceLT, Nat.reduceBEq, Nat.reduceBNe, Int.reduceBEq, Int.reduceBNe, Int.reduceLT, Int.reduceLE, Int.reduceAdd, Int.reduceEq, Int.reduceNe, beq_self_eq_true, bne_self_eq_false, decide_true, decide_false, Bool.not_true, Bool.not_false, Bool.false_eq_true, false_and, and_false, not_true_eq_false, not_false_eq_true, f3, VlA, numV]
              have hq10 := (b8.trans b9).trans b10
              refine (pc_spec T (cs := []) g7 (s7.quiet hq10)).use ?_
              rintro r M11 hw11 ⟨rfl, b11⟩
              have hpc : (⟨0, 3, []⟩ : Fr).pc = 3 := rfl
              rw [hpc]
              simp only [go_sem, reduceCtorEq, Nat.reduceEqDiff, Nat.reduceAdd, Nat.reduceMul, Nat.reduceLeDiff, Nat.reduceSub, Nat.reduceLT, Nat.reduceBEq, Nat.reduceBNe, Int.reduceBEq, Int.reduceBNe, Int.reduceLT, Int.reduceLE, Int.reduceAdd, Int.reduceEq, Int.reduceNe, beq_self_eq_true, bne_self_eq_false, decide_true, decide_false, Bool.not_true, Bool.not_false, Bool.false_eq_true, false_and, and_false, not_true_eq_false, not_false_eq_true, f3]
              refine (frames_one T (f := ⟨0, 3, []⟩) (s7.quiet (hq10.trans b11)) rfl).use ?_
              rintro r M12 hw12 ⟨⟨fv, rfl, hfv⟩, b12⟩
              have l12 := l6.quiet hw12 ((hq10.trans b11).trans b12)
              have g12 : (((1 : Nat) : Int) != 1) = false := rfl
              simp only [go_sem, reduceCtorEq, Nat.reduceEqDiff, Nat.reduceAdd, Nat.reduceMul, Nat.reduceLeDiff, Nat.reduceSub, Nat.reduceLT, Nat.reduceBEq, Nat.reduceBNe, Int.reduceBEq, Int.reduceBNe, Int.reduceLT, Int.reduceLE, Int.reduceAdd, Int.reduceEq, Int.reduceNe, beq_self_eq_true, bne_self_eq_false, decide_true, decide_false, Bool.not_true, Bool.not_false, Bool.false_eq_true, false_and, and_false, not_true_eq_false, not_false_eq_true, hfv, g12]
              refine loop_wp (I := fun m fr M' => m ≤ n ∧ WI M2 M' sp hp (fun p => p.num < M0.next.num ∨ p = q) [⟨0, 3, []⟩] 2 (s1 ++ [numV v]) ∧ FI fr sv v sp q hp n a b ∧ fr.get (.o (.o (.i (.o .h)))) = some (.int 3 ((n - m : Nat) : Int))) (n := n) ?_ ?_
              · exact ⟨Nat.le_refl _, l12, ((((l3.set _ _ (by decide)).set _ _ (by decide)).set _ _ (by decide)).set _ _ (by decide)).set _ _ (by decide), by rw [Nat.sub_self]; rw [Tr.get_set]; rfl⟩
              · rintro m fr M' ⟨m1, m2, m3, m4⟩
                have ⟨f1, f2, f3, f4, f5, f6, f7, f8⟩ := m3
                cases m with
                | succ m =>
                  have g2 : decide (((n - (m + 1) : Nat) : Int) < (n : Int)) = true := by simp only [decide_eq_true_eq]; omega
                  simp only [go_sem, reduceCtorEq, Nat.reduceEqDiff, Nat.reduceAdd, Nat.reduceMul, Nat.reduceLeDiff, Nat.reduceSub, Nat.reduceLT, Nat.reduceBEq, Nat.reduceBNe, Int.reduceBEq, Int.reduceBNe, Int.reduceLT, Int.reduceLE, Int.reduceAdd, Int.reduceEq, Int.reduceNe, beq_self_eq_true, bne_self_eq_false, decide_true, decide_false, Bool.not_true, Bool.not_false, Bool.false_eq_true, false_and, and_false, not_true_eq_false, not_false_eq_true, f3, f6, m4, g2]
                  obtain ⟨G7, s7, w7⟩ := m2.st
                  obtain ⟨o7, g7, ho7⟩ := w7.good (cs := []) (f := ⟨0, 3, []⟩) (by rw [hls]; omega) (Int.le_refl _) (by rw [hls]; show (0 : Int) + 1 ≤ _; omega) (by decide)
                  have hj : n - (m + 1) + 1 < o7.slots.length := by rw [ho7, hls]; omega
                  refine (reg_spec T (cs := []) g7 s7 (a := ((n - (m + 1) : Nat) : Int)) (j := n - (m + 1) + 1) hj (by omega) (by rw [hbase]; omega)).use ?_
                  rintro r M14 hw14 ⟨rfl, b14⟩
                  have m14 := m2.quiet hw14 b14
                  have hv14 : o7.slots[n - (m + 1) + 1] = numV (l[n - (m + 1)]'(by omega)) := by
                    have h1 := hg1 (n - (m + 1)) (by omega)
                    have h2 : o7.slots[n - (m + 1) + 1]? = some (numV (l[n - (m + 1)]'(by omega))) := by rw [ho7, List.getElem?_append_left (by omega)]; exact h1
                    rw [List.getElem?_eq_getElem hj] at h2
                    exact Option.some.inj h2
                  rw [hv14]
                  have ⟨hsl', _⟩ := old m14
                  obtain ⟨p, po, pn, a1, a2, a3⟩ := int_at hsl' (i := n - (m + 1)) (by omega)
                  have ⟨hsl0, _⟩ := old m2
                  obtain ⟨p', po', pn', a1', a2', a3'⟩ := int_at hsl0 (i := n - (m + 1)) (by omega)
                  rw [a1] at a1'
                  cases a1'
                  simp only [go_sem, reduceCtorEq, Nat.reduceEqDiff, Nat.reduceAdd, Nat.reduceMul, Nat.reduceLeDiff, Nat.reduceSub, Nat.reduceLT, Nat.reduceBEq, Nat.reduceBNe, Int.reduceBEq, Int.reduceBNe, Int.reduceLT, Int.reduceLE, Int.reduceAdd, Int.reduceEq, Int.reduceNe, beq_self_eq_true, bne_self_eq_false, decide_true, decide_false, Bool.not_true, Bool.not_false, Bool.false_eq_true, false_and, and_false, not_true_eq_false, not_false_eq_true, f1, m4, a1, a2, a3, a3']
                  refine (number_spec h16 _).use ?_
                  rintro r M15 hw15 ⟨rfl, b15⟩
                  have m15 := m14.quiet hw15 b15
                  have e1 : IntKind.i64.wrap (((n - (m + 1) : Nat) : Int) + 1) = ((n - m : Nat) : Int) := by rw [wrap64 (by omega) (by omega)]; omega
                  simp only [go_sem, reduceCtorEq, Nat.reduceEqDiff, Nat.reduceAdd, Nat.reduceMul, Nat.reduceLeDiff, Nat.reduceSub, Nat.reduceLT, Nat.reduceBEq, Nat.reduceBNe, Int.reduceBEq, Int.reduceBNe, Int.reduceLT, Int.reduceLE, Int.reduceAdd, Int.reduceEq, Int.reduceNe, beq_self_eq_true, bne_self_eq_false, decide_true, decide_false, Bool.not_true, Bool.not_false, Bool.false_eq_true, false_and, and_false, not_true_eq_false, not_false_eq_true, VlA, numV, m4, e1]
                  exact ⟨m, by omega, by omega, m15, ((m3.set _ _ (by decide)).set _ _ (by decide)).set _ _ (by decide), by rw [Tr.get_set]; rfl⟩
                | zero =>
                  have g2 : decide (((n - 0 : Nat) : Int) < (n : Int)) = false := by simp only [decide_eq_false_iff_not]; omega
                  simp only [go_sem, reduceCtorEq, Nat.reduceEqDiff, Nat.reduceAdd, Nat.reduceMul, Nat.reduceLeDiff, Nat.reduceSub, Nat.reduceLT, Nat.reduceBEq, Nat.reduceBNe, Int.reduceBEq, Int.reduceBNe, Int.reduceLT, Int.reduceLE, Int.reduceAdd, Int.reduceEq, Int.reduceNe, beq_self_eq_true, bne_self_eq_false, decide_true, decide_false, Bool.not_true, Bool.not_false, Bool.false_eq_true, false_and, and_false, not_true_eq_false, not_false_eq_true, f3, f5, f6, m4, g2]
                  obtain ⟨cv, hz⟩ := m2.spc
                  obtain ⟨G7, s7, w7⟩ := m2.st
                  obtain ⟨own, Z, rfl, rfl, rfl, hP, hB, hH⟩ := s7.open_ hz
                  obtain ⟨o1, k1, k2, k3⟩ := w7.o1
                  refine (obj_some T.h25 T.h75 T.h76 hH k1 (by rw [w7.flat o1 k1]; exact Nat.zero_le _)).use ?_
                  rintro r M14 hw14 ⟨sv', rfl, hfr', b14⟩
                  simp only [go_sem, reduceCtorEq, Nat.reduceEqDiff, Nat.reduceAdd, Nat.reduceMul, Nat.reduceLeDiff, Nat.reduceSub, Nat.reduceLT, Nat.reduceBEq, Nat.reduceBNe, Int.reduceBEq, Int.reduceBNe, Int.reduceLT, Int.reduceLE, Int.reduceAdd, Int.reduceEq, Int.reduceNe, beq_self_eq_true, bne_self_eq_false, decide_true, decide_false, Bool.not_true, Bool.not_false, Bool.false_eq_true, false_and, and_false, not_true_eq_false, not_false_eq_true, ObA, k3]
end Go.Proofs.Ythpnhdopheofcaa

end
section
namespace Go.Proofs.Ythpnhdopheofcaa
open Go.Dx
variable {tbl : Nat → Option CFunc}

theorem ints_of : ∀ {xs : List (List AV)}, (∀ x ∈ xs, okRow [.i .i64] x) → ∃ l : List Int, xs = IntL l
  | [], _ => ⟨[], rfl⟩
  | x :: r, h => by
    obtain ⟨l, rfl⟩ := ints_of (xs := r) fun y hy => h y (List.mem_cons_of_mem _ hy)
    have hx := h x List.mem_cons_self
    rcases x with _ | ⟨a, _ | ⟨b, t⟩⟩
    · exact hx.elim
    · obtain ⟨⟨k, rfl, hk⟩, _⟩ := hx
      exact ⟨k :: l, by simp [IntL, codeOf]⟩
    · exact hx.2.elim

theorem u8_of {n : Int} (hn : (Lit.int .u8 n).wf = true) : 0 ≤ n ∧ n < 256 := by
  simp only [Lit.wf, IntKind.min, IntKind.max, IntKind.signed, IntKind.bits, Bool.and_eq_true, decide_eq_true_eq] at hn
  simp at hn
  omega

theorem tries_arg (T : SkT tbl) (h3 : tbl 3 = some cf3) {cw : CFunc} (h13 : tbl 13 = some cw) (hcw : cw = ⟨.skip, [], some (.bool true)⟩) (h14 : tbl 14 = some cf14) (h16 : tbl 16 = some cf16) {W : World} {v : Value} {sv : AV} {len : Nat} {xs : List (List AV)} {a b n : Int}
    (h : ArgSl [.i .i64] W v sv len xs) (ha : (Lit.int .u8 a).wf = true) (hb : (Lit.int .u8 b).wf = true) :
    CallW tbl 3 (.cons sv (.cons (.agg (.cons (.int 4 a) (.cons (.int 4 b) .nil))) (.cons (.int 3 n) .nil))) (argM (argO sv xs)) fun r _ => r = .ret (.bool true) := by
  subst hcw
  obtain ⟨l, rfl⟩ := ints_of h.okRows
  have hr := h.rows
  exact stackTries (l := l.take len) T h3 h13 h14 h16 (by simpa [IntL, List.map_take] using hr) (u8_of ha) (u8_of hb)
end Go.Proofs.Ythpnhdopheofcaa

end
section
namespace Go.Proofs.Ythpnhdopheofcaa
open Go.Dx
variable {tbl : Nat → Option CFunc}

theorem leave_spec (T : SkT tbl) {M : Mem} {sp : Pos} {P : Pos → Prop} {csl : List Fr} {fl : Fr} {G : Hp} {c : Int} {s : List Vl} {v : Vl} {o : Ob} {bs : Nat} (hg : Good G 2 csl fl o) (hS : StackIs M sp P 2 (csl ++ [fl]) G) (hW : SW G c (s ++ [v])) (ho : o.slots = s ++ [v]) (hb : fl.base = bs) (hh : bs + 1 ≤ s.length) (hv : plain v) :
    CallW tbl 28 (.cons (.ptr sp 0) .nil) M fun r M' => r = .ret (.tuple (.cons (.bool (decide (csl.length = 0))) (.cons (.int 3 0) .nil))) ∧ (∃ G', StackIs M' sp P 2 csl G' ∧ SW G' (c - cnt (s.drop bs)) (s.take bs ++ [v])) ∧ But (fun p => ¬ P p) M M' ∧ ∀ hp, HpOf M sp hp → HpOf M' sp hp := by
  refine CallW.wf fun hw => ?_
  refine CallW.intro T.h28 rfl (fr := .nod (.val .leaf (.ptr sp 0) .leaf) .leaf) rfl ?_
  simp only [go_sem, reduceCtorEq, Nat.reduceEqDiff, Nat.reduceAdd, Nat.reduceMul, Nat.reduceLeDiff, Nat.reduceSub, Nat.reduceLT, Nat.reduceBEq, Nat.reduceBNe, Int.reduceBEq, Int.reduceBNe, Int.reduceLT, Int.reduceLE, Int.reduceAdd, Int.reduceEq, Int.reduceNe, beq_self_eq_true, bne_self_eq_false, decide_true, decide_false, Bool.not_true, Bool.not_false, Bool.false_eq_true, false_and, and_false, not_true_eq_false, not_false_eq_true, cf28]
  refine (hg.state T hS).use ?_
  rintro r M1 hw1 ⟨rfl, b1⟩
  simp only [go_sem, reduceCtorEq, Nat.reduceEqDiff, Nat.reduceAdd, Nat.reduceMul, Nat.reduceLeDiff, Nat.reduceSub, Nat.reduceLT, Nat.reduceBEq, Nat.reduceBNe, Int.reduceBEq, Int.reduceBNe, Int.reduceLT, Int.reduceLE, Int.reduceAdd, Int.reduceEq, Int.reduceNe, beq_self_eq_true, bne_self_eq_false, decide_true, decide_false, Bool.not_true, Bool.not_false, Bool.false_eq_true, false_and, and_false, not_true_eq_false, not_false_eq_true]
  refine (height_spec T hg (hS.quiet b1)).use ?_
  rintro r M2 hw2 ⟨rfl, b2⟩
  have hol := hg.len
  rw [ho, List.length_append] at hol
  have hol' : s.length + 1 ≤ 2 ^ 30 := hol
  have g1 : ((o.slots.length : Int) - fl.base - 1 == 0) = false := by
    rw [ho, hb, List.length_append]
    simp only [List.length_cons, List.length_nil, beq_eq_false_iff_ne, ne_eq]
    omega
  have hS2 := (hS.quiet b1).quiet b2
  have i4r := hS2.wide (But_reserve M2 _) (Nat.le_refl _) (by show M2.next.num < M2.next.succ.num; rw [Pos.num_succ]; omega)
  simp only [go_sem, reduceCtorEq, Nat.reduceEqDiff, Nat.reduceAdd, Nat.reduceMul, Nat.reduceLeDiff, Nat.reduceSub, Nat.reduceLT, Nat.reduceBEq, Nat.reduceBNe, Int.reduceBEq, Int.reduceBNe, Int.reduceLT, Int.reduceLE, Int.reduceAdd, Int.reduceEq, Int.reduceNe, beq_self_eq_true, bne_self_eq_false, decide_true, decide_false, Bool.not_true, Bool.not_false, Bool.false_eq_true, false_and, and_false, not_true_eq_false, not_false_eq_true, g1]
  refine (n_spec T.h69 i4r).use ?_
  rintro r M3 hw3 ⟨rfl, rfl⟩
  obtain ⟨hp, cv, hz⟩ := hS2.cells
  have hzr : (⟨M2.next.succ, M2.get⟩ : Mem).get sp = spC hp 2 cv := hz
  have hz' := hz
  simp only [spC] at hz'
  simp only [go_sem, reduceCtorEq, Nat.reduceEqDiff, Nat.reduceAdd, Nat.reduceMul, Nat.reduceLeDiff, Nat.reduceSub, Nat.reduceLT, Nat.reduceBEq, Nat.reduceBNe, Int.reduceBEq, Int.reduceBNe, Int.reduceLT, Int.reduceLE, Int.reduceAdd, Int.reduceEq, Int.reduceNe, beq_self_eq_true, bne_self_eq_false, decide_true, decide_false, Bool.not_true, Bool.not_false, Bool.false_eq_true, false_and, and_false, not_true_eq_false, not_false_eq_true, hz']
  refine (hpop T i4r hzr hW (by omega)).use ?_
  rintro r M4 hw4 ⟨rfl, ⟨G4, s4, w4⟩, b4, hz4⟩
  have hq : (M2.next.num < M4.next.num) = True := eq_true (by have := b4.next; have e : M2.next.succ.num ≤ M4.next.num := this; rw [Pos.num_succ] at e; omega)
  obtain ⟨vk, vn⟩ := v
  have ne2 := hw2.ne hz'
  generalize hqq : M2.next = q at *
  have bp : But (fun p => p = q) M4 ((M4.put q (.cells [.int 3 0, .int 3 0] false)).put q (.cells [.int 3 vk, .int 3 vn] false)) :=
    (But.put (S := fun p => p = q) (p := q) _ rfl _).trans (But.put (S := fun p => p = q) (p := q) _ rfl _)
  have s5 := s4.frame (bp.mono fun p hp => .inr hp)
  have x5 : ((M4.put q (.cells [.int 3 0, .int 3 0] false)).put q (.cells [.int 3 vk, .int 3 vn] false)).get q = some (.cells [.int 3 vk, .int 3 vn] false) := by simp [Mem.put]
  have hz5 : ((M4.put q (.cells [.int 3 0, .int 3 0] false)).put q (.cells [.int 3 vk, .int 3 vn] false)).get sp = spC hp 2 cv := by
    have e0 : ¬ (sp = q) := of_eq_false ne2
    simp only [Mem.put, if_neg e0]
    exact hz4
  have w5 : ((M4.put q (.cells [.int 3 0, .int 3 0] false)).put q (.cells [.int 3 vk, .int 3 vn] false)).wf := fun p c' hp' => by
    by_cases e : p = q
    · subst e; exact of_eq_true hq
    · simp only [Mem.put, if_neg e] at hp'; exact hw4 p c' hp'
  simp only [go_sem, reduceCtorEq, Nat.reduceEqDiff, Nat.reduceAdd, Nat.reduceMul, Nat.reduceLeDiff, Nat.reduceSub, Nat.reduceLT, Nat.reduceBEq, Nat.reduceBNe, Int.reduceBEq, Int.reduceBNe, Int.reduceLT, Int.reduceLE, Int.reduceAdd, Int.reduceEq, Int.reduceNe, beq_self_eq_true, bne_self_eq_false, decide_true, decide_false, Bool.not_true, Bool.not_false, Bool.false_eq_true, false_and, and_false, not_true_eq_false, not_false_eq_true, VlA, hq]
  generalize hM5 : (M4.put q (.cells [.int 3 0, .int 3 0] false)).put q (.cells [.int 3 vk, .int 3 vn] false) = M5 at *
  obtain ⟨own, Z, rfl, rfl, rfl, hP, hB, hH⟩ := s5.open_ hz5
  obtain ⟨p, po, pn, a1, htop, c0, c1, c2, hown⟩ := Good.top T hB hg.calls
  refine htop.use ?_
  rintro r M6 hw6 ⟨rfl, rfl⟩
  rw [hb] at c0
  simp only [go_sem, reduceCtorEq, Nat.reduceEqDiff, Nat.reduceAdd, Nat.reduceMul, Nat.reduceLeDiff, Nat.reduceSub, Nat.reduceLT, Nat.reduceBEq, Nat.reduceBNe, Int.reduceBEq, Int.reduceBNe, Int.reduceLT, Int.reduceLE, Int.reduceAdd, Int.reduceEq, Int.reduceNe, beq_self_eq_true, bne_self_eq_false, decide_true, decide_false, Bool.not_true, Bool.not_false, Bool.false_eq_true, false_and, and_false, not_true_eq_false, not_false_eq_true, Nat.add_zero, c0]
  refine (down_spec T s5 w4 (by omega) (by omega)).use ?_
  rintro r M7 hw7 ⟨rfl, ⟨G7, s7, w7⟩, b7, hz7⟩
  rw [hz5] at hz7
  have x7 := b7.get _ _ (fun e => e (.inr rfl)) x5
  have hz7' := hz7
  simp only [spC] at hz7'
  obtain ⟨own2, Z2, e1, e2, e3, hP2, hB2, hH2⟩ := s7.open_ hz7
  have hlen := hB2.cal.len
  rw [frL_len, e3] at hlen
  simp only [List.length_append, List.length_cons, List.length_nil] at hlen
  have hcl := hg.calls
  obtain ⟨v8, p8, hc8, hB8⟩ := hB2.pop
  rw [e3] at p8
  have e8 : IntKind.i64.wrap (((csl.length + (0 + 1) : Nat) : Int) - 1) = ((csl.length : Nat) : Int) := by rw [wrap64 (by omega) (by omega)]; omega
  obtain ⟨r1, r2⟩ := StackIs.step (t := (0, 0)) (Z := Z2) hP2 (by rw [e2]; exact hH2) (OwnUp.refl _ _ _ _) (But.put (p := Z2.sp) _ (by rw [hB2.spo]; simp) _) hB8 rfl
  have r1' := r1
  rw [e1, e2] at r1' r2
  have hz8 : (M7.put Z.sp (.cells [.ptr Z.hp 0, .int 3 8, .int 3 2, v8] false)).get Z.sp = spC Z.hp 2 v8 := by simp [Mem.put, spC]
  have nspq : (q = Z.sp) = False := eq_false fun e => by have h1 := hB.spo; rw [← e, (hP q (.inr rfl)).1] at h1; cases h1
  have nspq' : (Z.sp = q) = False := eq_false fun e => of_eq_false nspq e.symm
  have x8 : (M7.put Z.sp (.cells [.ptr Z.hp 0, .int 3 8, .int 3 2, v8] false)).get q = some (.cells [.int 3 vk, .int 3 vn] false) := by simp only [Mem.put, if_neg (of_eq_false nspq)]; exact x7
  simp only [go_sem, reduceCtorEq, Nat.reduceEqDiff, Nat.reduceAdd, Nat.reduceMul, Nat.reduceLeDiff, Nat.reduceSub, Nat.reduceLT, Nat.reduceBEq, Nat.reduceBNe, Int.reduceBEq, Int.reduceBNe, Int.reduceLT, Int.reduceLE, Int.reduceAdd, Int.reduceEq, Int.reduceNe, beq_self_eq_true, bne_self_eq_false, decide_true, decide_false, Bool.not_true, Bool.not_false, Bool.false_eq_true, false_and, and_false, not_true_eq_false, not_false_eq_true, hz7', hlen, e8, p8, hc8]
  refine (n_spec T.h69 r1').use ?_
  rintro r M9 hw9 ⟨rfl, rfl⟩
  simp only [go_sem, reduceCtorEq, Nat.reduceEqDiff, Nat.reduceAdd, Nat.reduceMul, Nat.reduceLeDiff, Nat.reduceSub, Nat.reduceLT, Nat.reduceBEq, Nat.reduceBNe, Int.reduceBEq, Int.reduceBNe, Int.reduceLT, Int.reduceLE, Int.reduceAdd, Int.reduceEq, Int.reduceNe, beq_self_eq_true, bne_self_eq_false, decide_true, decide_false, Bool.not_true, Bool.not_false, Bool.false_eq_true, false_and, and_false, not_true_eq_false, not_false_eq_true, x7, nspq]
  have hl2 : (s.take bs).length ≤ 2 ^ 30 := by rw [List.length_take]; omega
  refine (hpush T (v := ⟨vk, vn⟩) r1' hz8 w7 hl2 (.inr hv) (by rw [hv.cnt_]; exact w7.more)).use ?_
  rintro r M10 hw10 ⟨rfl, ⟨G10, s10, w10⟩, b10, hz10⟩
  have hz10' := hz10
  simp only [spC] at hz10'
  have hl8 : slLen v8 = some csl.length := by have := hB8.cal.len; rw [frL_len] at this; exact this
  simp only [go_sem, reduceCtorEq, Nat.reduceEqDiff, Nat.reduceAdd, Nat.reduceMul, Nat.reduceLeDiff, Nat.reduceSub, Nat.reduceLT, Nat.reduceBEq, Nat.reduceBNe, Int.reduceBEq, Int.reduceBNe, Int.reduceLT, Int.reduceLE, Int.reduceAdd, Int.reduceEq, Int.reduceNe, beq_self_eq_true, bne_self_eq_false, decide_true, decide_false, Bool.not_true, Bool.not_false, Bool.false_eq_true, false_and, and_false, not_true_eq_false, not_false_eq_true, hz10', hl8]
  have hbool : ((csl.length : Int) == 0) = decide (csl.length = 0) := by cases csl <;> simp; omega
  rw [hbool]
  have hlo : ∀ p, P p → p.num < q.num := fun p hp => by obtain ⟨_, _, _, h2, _⟩ := hS2; rw [← hqq]; exact (h2 p hp).2
  have bR : But (fun _ => False) M2 ⟨q.succ, M2.get⟩ := by rw [← hqq]; exact But_reserve M2 _
  have t1 : But (fun p => ¬ P p) M M4 := (((b1.trans b2).trans bR).any _).trans (b4.mono fun p hn hp => hn (.inl hp))
  have t2 := t1.trans (bp.mono fun p e hp => by subst e; have := hlo _ hp; omega)
  exact ⟨rfl, ⟨G10, s10.less fun p hp => .inl hp, w10⟩, t2.trans (((b7.trans r2).trans b10).mono fun p hn hp => hn (.inl hp)), fun hp0 h0 => by
    have e := h0.same (b1.trans b2) hz'
    subst e
    exact ⟨_, _, hz10⟩⟩

theorem fn_spec (T : SkT tbl) {M : Mem} {sp : Pos} {P : Pos → Prop} {co : Int} {cs : List Fr} {f : Fr} {G : Hp} {o : Ob} (h : Good G co cs f o) (hS : StackIs M sp P co (cs ++ [f]) G) {j : Nat} (hj : j < o.slots.length) (hb : f.base = (j : Int)) :
    CallW tbl 26 (.cons (.ptr sp 0) .nil) M fun r M' => r = .ret (VlA o.slots[j]) ∧ But (fun _ => False) M M' := by
  refine CallW.wf fun hw => ?_
  refine CallW.intro T.h26 rfl (fr := .nod (.val .leaf (.ptr sp 0) .leaf) .leaf) rfl ?_
  simp only [go_sem, reduceCtorEq, Nat.reduceEqDiff, Nat.reduceAdd, Nat.reduceMul, Nat.reduceLeDiff, Nat.reduceSub, Nat.reduceLT, Nat.reduceBEq, Nat.reduceBNe, Int.reduceBEq, Int.reduceBNe, Int.reduceLT, Int.reduceLE, Int.reduceAdd, Int.reduceEq, Int.reduceNe, beq_self_eq_true, bne_self_eq_false, decide_true, decide_false, Bool.not_true, Bool.not_false, Bool.false_eq_true, false_and, and_false, not_true_eq_false, not_false_eq_true, cf26]
  have b0 := But.new (S := fun _ => False) hw (.cells [.int 3 0, .int 3 0] false)
  refine (slot_spec T h (hS.quiet b0) (b := 0) hj (by rw [hb]; omega)).use ?_
  rintro r M2 hw2 ⟨rfl, b2⟩
  have e4 : M2.get M.next = some (.cells [.int 3 0, .int 3 0] false) := b2.get _ _ id (by simp only [go_sem, reduceCtorEq, Nat.reduceEqDiff, Nat.reduceAdd, Nat.reduceMul, Nat.reduceLeDiff, Nat.reduceSub, Nat.reduceLT, Nat.reduceBEq, Nat.reduceBNe, Int.reduceBEq, Int.reduceBNe, Int.reduceLT, Int.reduceLE, Int.reduceAdd, Int.reduceEq, Int.reduceNe, beq_self_eq_true, bne_self_eq_false, decide_true, decide_false, Bool.not_true, Bool.not_false, Bool.false_eq_true, false_and, and_false, not_true_eq_false, not_false_eq_true])
  simp only [go_sem, reduceCtorEq, Nat.reduceEqDiff, Nat.reduceAdd, Nat.reduceMul, Nat.reduceLeDiff, Nat.reduceSub, Nat.reduceLT, Nat.reduceBEq, Nat.reduceBNe, Int.reduceBEq, Int.reduceBNe, Int.reduceLT, Int.reduceLE, Int.reduceAdd, Int.reduceEq, Int.reduceNe, beq_self_eq_true, bne_self_eq_false, decide_true, decide_false, Bool.not_true, Bool.not_false, Bool.false_eq_true, false_and, and_false, not_true_eq_false, not_false_eq_true, VlA, e4]
  have bp : But (fun p => p = M.next) M2 (M2.put M.next (.cells [.int 3 o.slots[j].k, .int 3 o.slots[j].n] false)) := But.put (S := fun p => p = M.next) (p := M.next) _ rfl _
  have bb := But.fresh (S := fun _ => False) hw (((b0.trans b2).any _).trans (bp.mono (S' := fun p => False ∨ M.next.num ≤ p.num) (by rintro p rfl; exact .inr (Nat.le_refl _))))
  first | exact bb | exact ⟨rfl, bb⟩

theorem co_spec (T : SkT tbl) {M : Mem} {sp : Pos} {P : Pos → Prop} {co : Int} {calls : List Fr} {G : Hp} (hS : StackIs M sp P co calls G) :
    CallW tbl 29 (.cons (.ptr sp 0) .nil) M fun r M' => r = .ret (VlA ⟨8, co⟩) ∧ But (fun _ => False) M M' := by
  refine CallW.wf fun hw => ?_
  refine CallW.intro T.h29 rfl (fr := .nod (.val .leaf (.ptr sp 0) .leaf) .leaf) rfl ?_
  obtain ⟨own, Z, rfl, hP, hB, hH⟩ := hS
  have hz := hB.spc
  have ne := hw.ne hz
  simp only [go_sem, reduceCtorEq, Nat.reduceEqDiff, Nat.reduceAdd, Nat.reduceMul, Nat.reduceLeDiff, Nat.reduceSub, Nat.reduceLT, Nat.reduceBEq, Nat.reduceBNe, Int.reduceBEq, Int.reduceBNe, Int.reduceLT, Int.reduceLE, Int.reduceAdd, Int.reduceEq, Int.reduceNe, beq_self_eq_true, bne_self_eq_false, decide_true, decide_false, Bool.not_true, Bool.not_false, Bool.false_eq_true, false_and, and_false, not_true_eq_false, not_false_eq_true, cf29, hz, ne, VlA]
  have b1 := But.fill hw (.cells [.int 3 0, .int 3 0] false) (.cells [.int 3 8, .int 3 co] false)
  first | exact b1 | exact ⟨rfl, b1⟩

theorem null_spec (h : tbl 27 = some cf27) {M : Mem} : CallW tbl 27 .nil M fun r M' => r = .ret (VlA nilV) ∧ But (fun _ => False) M M' := by
  refine CallW.wf fun hw => ?_
  refine CallW.intro h rfl (fr := .leaf) rfl ?_
  simp only [go_sem, reduceCtorEq, Nat.reduceEqDiff, Nat.reduceAdd, Nat.reduceMul, Nat.reduceLeDiff, Nat.reduceSub, Nat.reduceLT, Nat.reduceBEq, Nat.reduceBNe, Int.reduceBEq, Int.reduceBNe, Int.reduceLT, Int.reduceLE, Int.reduceAdd, Int.reduceEq, Int.reduceNe, beq_self_eq_true, bne_self_eq_false, decide_true, decide_false, Bool.not_true, Bool.not_false, Bool.false_eq_true, false_and, and_false, not_true_eq_false, not_false_eq_true, cf27, VlA, nilV]
  exact But.fill hw (.cells [.int 3 0, .int 3 0] false) (.cells [.int 3 1, .int 3 0] false)

/-- Refs of one value that holds nothing. -/
theorem refs_one (T : SkT tbl) (h : tbl 30 = some cf30) {M : Mem} {sv : AV} {v : Vl} (hs : SlIs M sv 2 (VlL [v])) (hv : refV v = false) :
    CallW tbl 30 (.cons sv .nil) M fun r M' => r = .ret .nilslice ∧ But (fun _ => False) M M' := by
  refine CallW.wf fun hw => ?_
  refine CallW.intro h rfl (fr := .nod (.val .leaf sv .leaf) .leaf) rfl ?_
  have hl : slLen sv = some 1 := by rw [hs.len]; rfl
  obtain ⟨p, po, a1, a2⟩ := hs.at_ (i := 0) (by rw [vlL_len]; exact Nat.one_pos)
  have a1' : slAt sv = some (p, po, 1) := a1
  have a2' : MB.cellsAt (M.get p) (po + 0) 2 = some [.int 3 v.k, .int 3 v.n] := by
    have e : po + 0 * 2 = po + 0 := by omega
    rw [e] at a2
    exact a2
  have g1 : (0 : Nat) < 1 := by omega
  simp only [go_sem, reduceCtorEq, Nat.reduceEqDiff, Nat.reduceAdd, Nat.reduceMul, Nat.reduceLeDiff, Nat.reduceSub, Nat.reduceLT, Nat.reduceBEq, Nat.reduceBNe, Int.reduceBEq, Int.reduceBNe, Int.reduceLT, Int.reduceLE, Int.reduceAdd, Int.reduceEq, Int.reduceNe, beq_self_eq_true, bne_self_eq_false, decide_true, decide_false, Bool.not_true, Bool.not_false, Bool.false_eq_true, false_and, and_false, not_true_eq_false, not_false_eq_true, cf30, hl]
  refine loop_wp (I := fun n fr M' => ((n = 1 ∧ M' = M ∧ fr.get (.o (.i (.o .h))) = some (.int 3 0)) ∨ (n = 0 ∧ But (fun _ => False) M M' ∧ fr.get (.o (.i (.o .h))) = some (.int 3 1))) ∧
    fr.get (.o (.o (.o .h))) = some sv ∧ fr.get (.i (.o (.o .h))) = some (.int 3 1) ∧ fr.get (.i (.o .h)) = some .nilslice) (n := 1) ?_ ?_
  · exact ⟨.inl ⟨rfl, rfl, rfl⟩, rfl, rfl, rfl⟩
  · rintro n fr M' ⟨⟨rfl, rfl, f1⟩ | ⟨rfl, h2, f1⟩, f2, f3, f4⟩
    · have g : decide ((0 : Int) < 1) = true := rfl
      have b1 := But.fill hw (.cells [.int 3 0, .int 3 0] false) (.cells [.int 3 v.k, .int 3 v.n] false)
      have hcell : ∀ n, isCell (.int 3 n) = true := fun _ => rfl
      simp only [go_sem, reduceCtorEq, Nat.reduceEqDiff, Nat.reduceAdd, Nat.reduceMul, Nat.reduceLeDiff, Nat.reduceSub, Nat.reduceLT, Nat.reduceBEq, Nat.reduceBNe, Int.reduceBEq, Int.reduceBNe, Int.reduceLT, Int.reduceLE, Int.reduceAdd, Int.reduceEq, Int.reduceNe, beq_self_eq_true, bne_self_eq_false, decide_true, decide_false, Bool.not_true, Bool.not_false, Bool.false_eq_true, false_and, and_false, not_true_eq_false, not_false_eq_true, f1, f2, f3, f4, g, g1, a1', a2']
      refine (ref_spec T.h77 T.h117 T.h143 (v := v)).use ?_
      rintro r M2 hw2 ⟨rfl, b2⟩
      have e1 : IntKind.i64.wrap (0 + 1) = 1 := rfl
      simp only [go_sem, reduceCtorEq, Nat.reduceEqDiff, Nat.reduceAdd, Nat.reduceMul, Nat.reduceLeDiff, Nat.reduceSub, Nat.reduceLT, Nat.reduceBEq, Nat.reduceBNe, Int.reduceBEq, Int.reduceBNe, Int.reduceLT, Int.reduceLE, Int.reduceAdd, Int.reduceEq, Int.reduceNe, beq_self_eq_true, bne_self_eq_false, decide_true, decide_false, Bool.not_true, Bool.not_false, Bool.false_eq_true, false_and, and_false, not_true_eq_false, not_false_eq_true, hv, f1, f2, f3, f4, e1]
      exact ⟨0, by omega, .inr ⟨rfl, b1.trans b2, by rw [Tr.get_set]; rfl⟩, by simp [Tr.get_set, f2], by simp [Tr.get_set, f3], by simp [Tr.get_set, f4]⟩
    · have g : decide ((1 : Int) < 1) = false := rfl
      simp only [go_sem, reduceCtorEq, Nat.reduceEqDiff, Nat.reduceAdd, Nat.reduceMul, Nat.reduceLeDiff, Nat.reduceSub, Nat.reduceLT, Nat.reduceBEq, Nat.reduceBNe, Int.reduceBEq, Int.reduceBNe, Int.reduceLT, Int.reduceLE, Int.reduceAdd, Int.reduceEq, Int.reduceNe, beq_self_eq_true, bne_self_eq_false, decide_true, decide_false, Bool.not_true, Bool.not_false, Bool.false_eq_true, false_and, and_false, not_true_eq_false, not_false_eq_true, f1, f2, f3, f4, g]
      exact h2
end Go.Proofs.Ythpnhdopheofcaa

end
section
namespace Go.Proofs.Ythpnhdopheofcaa
open Go.Dx
variable {tbl : Nat → Option CFunc}

/-- What the law StackCalls' frame holds. -/
structure FC (fr : Tr AV) (sv : AV) (v : Int) (sp q hp : Pos) (n wn : Nat) : Prop where
  f1 : fr.get (.o .h) = some sv
  f2 : fr.get (.o (.o .h)) = some (.int 3 v)
  f3 : fr.get (.o (.i (.o .h))) = some (.ptr sp 0)
  f4 : fr.get (.i (.i (.o .h))) = some (.ptr q 0)
  f5 : fr.get (.i (.o (.o .h))) = some (.ptr hp 0)
  f6 : fr.get (.o (.o (.i .h))) = some (.int 3 n)
  f7 : fr.get (.i (.o (.i .h))) = some (.int 3 wn)
theorem FC.set {fr : Tr AV} {sv : AV} {v : Int} {sp q hp : Pos} {n wn : Nat} (h : FC fr sv v sp q hp n wn) (k : Pos) (x : AV) (hk : k ∉ [Pos.o .h, .o (.o .h), .o (.i (.o .h)), .i (.i (.o .h)), .i (.o (.o .h)), .o (.o (.i .h)), .i (.o (.i .h))]) : FC (Tr.set k x fr) sv v sp q hp n wn := by
  simp only [List.mem_cons, List.not_mem_nil, or_false, not_or] at hk
  obtain ⟨k1, k2, k3, k4, k5, k6, k7⟩ := hk
  have e : ∀ j, ¬ (k = j) → Tr.get j (Tr.set k x fr) = Tr.get j fr := fun j hj => by rw [Tr.get_set, if_neg fun e => hj e.symm]
  exact ⟨by rw [e _ k1]; exact h.f1, by rw [e _ k2]; exact h.f2, by rw [e _ k3]; exact h.f3, by rw [e _ k4]; exact h.f4, by rw [e _ k5]; exact h.f5, by rw [e _ k6]; exact h.f6, by rw [e _ k7]; exact h.f7⟩

set_option maxHeartbeats 4000000 in
theorem stackCalls (T : SkT tbl) (h4 : tbl 4 = some cf4) (h13 : tbl 13 = some ⟨.skip, [], some (.bool true)⟩) (h14 : tbl 14 = some cf14) (h16 : tbl 16 = some cf16) (h27 : tbl 27 = some cf27) (h30 : tbl 30 = some cf30) {M : Mem} {sv : AV} {l : List Int} (hl : SlIs M sv 1 (IntL l)) {a v : Int} (ha : 0 ≤ a ∧ a < 256) :
    CallW tbl 4 (.cons sv (.cons (.int 4 a) (.cons (.int 3 v) .nil))) M fun r _ => r = .ret (.bool true) := by
  refine CallW.wf fun hw => ?_
  refine CallW.intro h4 rfl (fr := .nod (.val (.val .leaf (.int 3 v) .leaf) sv .leaf) (.val .leaf (.int 4 a) .leaf)) rfl ?_
  simp only [go_sem, reduceCtorEq, Nat.reduceEqDiff, Nat.reduceAdd, Nat.reduceMul, Nat.reduceLeDiff, Nat.reduceSub, Nat.reduceLT, Nat.reduceBEq, Nat.reduceBNe, Int.reduceBEq, Int.reduceBNe, Int.reduceLT, Int.reduceLE, Int.reduceAdd, Int.reduceEq, Int.reduceNe, beq_self_eq_true, bne_self_eq_false, decide_true, decide_false, Bool.not_true, Bool.not_false, Bool.false_eq_true, false_and, and_false, not_true_eq_false, not_false_eq_true, cf4]
  refine CallW.konst h13 rfl ?_
  have hsl := hl.len
  rw [intL_len] at hsl
  simp only [go_sem, reduceCtorEq, Nat.reduceEqDiff, Nat.reduceAdd, Nat.reduceMul, Nat.reduceLeDiff, Nat.reduceSub, Nat.reduceLT, Nat.reduceBEq, Nat.reduceBNe, Int.reduceBEq, Int.reduceBNe, Int.reduceLT, Int.reduceLE, Int.reduceAdd, Int.reduceEq, Int.reduceNe, beq_self_eq_true, bne_self_eq_false, decide_true, decide_false, Bool.not_true, Bool.not_false, Bool.false_eq_true, false_and, and_false, not_true_eq_false, not_false_eq_true]
  refine (begun_spec T h14 (P := fun p => p.num < M.next.num) (fun _ h => h)).use ?_
  rintro r M1 hw1 ⟨hp, sp, rfl, ⟨G1, hS1, hW1⟩, b1, cv1, hz1⟩
  have en : (if (20 : Int) < (l.length : Int) then (20 : Int) else (l.length : Int)) = ((min l.length 20 : Nat) : Int) := by split <;> omega
  have hn1 : min l.length 20 ≤ l.length := Nat.min_le_left _ _
  have hn2 : min l.length 20 ≤ 20 := Nat.min_le_right _ _
  generalize hn : min l.length 20 = n at *
  have hwn : ∃ wn : Nat, a % 21 = (wn : Int) ∧ wn < 21 := ⟨(a % 21).toNat, by omega, by omega⟩
  obtain ⟨wn, ewn, hwn⟩ := hwn
  have eww : (kindOf 3).wrap (wn : Int) = wn := wrap64 (by omega) (by omega)
  simp only [go_sem, reduceCtorEq, Nat.reduceEqDiff, Nat.reduceAdd, Nat.reduceMul, Nat.reduceLeDiff, Nat.reduceSub, Nat.reduceLT, Nat.reduceBEq, Nat.reduceBNe, Int.reduceBEq, Int.reduceBNe, Int.reduceLT, Int.reduceLE, Int.reduceAdd, Int.reduceEq, Int.reduceNe, beq_self_eq_true, bne_self_eq_false, decide_true, decide_false, Bool.not_true, Bool.not_false, Bool.false_eq_true, false_and, and_false, not_true_eq_false, not_false_eq_true, VlA, hsl]
  have b2 := But.fill hw1 (.cells [.int 3 0, .int 3 0] false) (.cells [.int 3 fV.k, .int 3 fV.n] false)
  have w2 := hw1.fill (.cells [.int 3 0, .int 3 0] false) (.cells [.int 3 fV.k, .int 3 fV.n] false)
  have hS2 := hS1.wide b2 (q := M1.next) (Nat.le_refl _) (by show M1.next.num < M1.next.succ.num; rw [Pos.num_succ]; omega)
  have x2 : ((M1.new (.cells [.int 3 0, .int 3 0] false)).put M1.next (.cells [.int 3 fV.k, .int 3 fV.n] false)).get M1.next = some (.cells [.int 3 fV.k, .int 3 fV.n] false) := by simp [Mem.put]
  have hz2 : HpOf ((M1.new (.cells [.int 3 0, .int 3 0] false)).put M1.next (.cells [.int 3 fV.k, .int 3 fV.n] false)) sp hp := ⟨2, cv1, b2.get _ _ id hz1⟩
  have hn0 := b1.next
  have hP0 : ∀ p : Pos, ¬ (p.num < M.next.num) → M.next.num ≤ p.num := fun p h => by omega
  have b02 := (b1.mono hP0).trans (b2.any _)
  have hP2 : ∀ p : Pos, ¬ (p.num < M.next.num ∨ p = M1.next) → M.next.num ≤ p.num := fun p h => by have := fun e => h (.inl e); omega
  generalize hM2 : (M1.new (.cells [.int 3 0, .int 3 0] false)).put M1.next (.cells [.int 3 fV.k, .int 3 fV.n] false) = M2 at *
  generalize hq : M1.next = q at *
  have i2 : WI M2 M2 sp hp (fun p => p.num < M.next.num ∨ p = q) [⟨0, 0, []⟩] 2 [fV] := ⟨w2, ⟨G1, hS2, hW1⟩, But.refl _ _, hz2⟩
  have old : ∀ {M' : Mem} {calls : List Fr} {c : Int} {s : List Vl}, WI M2 M' sp hp (fun p => p.num < M.next.num ∨ p = q) calls c s → SlIs M' sv 1 (IntL l) ∧ M'.get q = some (.cells [.int 3 fV.k, .int 3 fV.n] false) := fun h =>
    ⟨hl.old (But.fresh hw ((b02.mono fun p h => .inr h).trans ((h.but.mono hP2).mono fun p h => .inr h))).old, h.but.get _ _ (fun e => e (.inr rfl)) x2⟩
  refine (number_spec h16 _).use ?_
  rintro r M3 hw3 ⟨rfl, b3⟩
  have i3 := i2.quiet hw3 b3
  obtain ⟨G3, s3, w3⟩ := i3.st
  simp only [go_sem, reduceCtorEq, Nat.reduceEqDiff, Nat.reduceAdd, Nat.reduceMul, Nat.reduceLeDiff, Nat.reduceSub, Nat.reduceLT, Nat.reduceBEq, Nat.reduceBNe, Int.reduceBEq, Int.reduceBNe, Int.reduceLT, Int.reduceLE, Int.reduceAdd, Int.reduceEq, Int.reduceNe, beq_self_eq_true, bne_self_eq_false, decide_true, decide_false, Bool.not_true, Bool.not_false, Bool.false_eq_true, false_and, and_false, not_true_eq_false, not_false_eq_true]
  refine (spush T (cs := []) (f := ⟨0, 0, []⟩) s3 w3 (by decide) (Int.le_refl _) (by decide) (by decide) (by decide) (.inr (num_plain _)) (by rw [(num_plain _).cnt_]; exact w3.more)).use ?_
  rintro r M4 hw4 ⟨rfl, s4, b4, hh4⟩
  have i4 := i3.next hw4 s4 b4 hh4
  have hx4 := (old i4).2
  simp only [go_sem, reduceCtorEq, Nat.reduceEqDiff, Nat.reduceAdd, Nat.reduceMul, Nat.reduceLeDiff, Nat.reduceSub, Nat.reduceLT, Nat.reduceBEq, Nat.reduceBNe, Int.reduceBEq, Int.reduceBNe, Int.reduceLT, Int.reduceLE, Int.reduceAdd, Int.reduceEq, Int.reduceNe, beq_self_eq_true, bne_self_eq_false, decide_true, decide_false, Bool.not_true, Bool.not_false, Bool.false_eq_true, false_and, and_false, not_true_eq_false, not_false_eq_true, hx4]
  obtain ⟨G4, s4', w4⟩ := i4.st
  obtain ⟨cv4, hz4⟩ := i4.spc
  refine (hkeep T s4' hz4 w4 (by decide) (by decide)).use ?_
  rintro r M5 hw5 ⟨rfl, s5, b5, hz5⟩
  have i5 := i4.next hw5 s5 b5 (fun hp' h' => by have e := h'.same (But.refl _ _) hz4; subst e; exact ⟨_, _, hz5⟩)
  have hx5 := (old i5).2
  obtain ⟨G5, s5', w5⟩ := i5.st
  have hf1 : cnt ([fV] ++ [numV (-1)] ++ [fV]) = 2 := by decide
  simp only [go_sem, reduceCtorEq, Nat.reduceEqDiff, Nat.reduceAdd, Nat.reduceMul, Nat.reduceLeDiff, Nat.reduceSub, Nat.reduceLT, Nat.reduceBEq, Nat.reduceBNe, Int.reduceBEq, Int.reduceBNe, Int.reduceLT, Int.reduceLE, Int.reduceAdd, Int.reduceEq, Int.reduceNe, beq_self_eq_true, bne_self_eq_false, decide_true, decide_false, Bool.not_true, Bool.not_false, Bool.false_eq_true, false_and, and_false, not_true_eq_false, not_false_eq_true, hx5]
  refine (spush T (cs := []) (f := ⟨0, 0, []⟩) (v := fV) s5' w5 (by decide) (Int.le_refl _) (by decide) (by decide) (by decide) (.inl rfl) (by rw [hf1]; decide)).use ?_
  rintro r M6 hw6 ⟨rfl, s6, b6, hh6⟩
  have i6 := i5.next hw6 s6 b6 hh6
  have e3 : [fV] ++ [numV (-1)] ++ [fV] = [fV, numV (-1), fV] := rfl
  rw [e3, show (2 : Int) + 1 = 3 from rfl] at i6
  simp only [go_sem, reduceCtorEq, Nat.reduceEqDiff, Nat.reduceAdd, Nat.reduceMul, Nat.reduceLeDiff, Nat.reduceSub, Nat.reduceLT, Nat.reduceBEq, Nat.reduceBNe, Int.reduceBEq, Int.reduceBNe, Int.reduceLT, Int.reduceLE, Int.reduceAdd, Int.reduceEq, Int.reduceNe, beq_self_eq_true, bne_self_eq_false, decide_true, decide_false, Bool.not_true, Bool.not_false, Bool.false_eq_true, false_and, and_false, not_true_eq_false, not_false_eq_true, hsl, en, rem_nat ha.1 (by decide) ewn, eww]
  refine loop_wp (I := fun m fr M' => m ≤ n ∧ WI M2 M' sp hp (fun p => p.num < M.next.num ∨ p = q) [⟨0, 0, []⟩] 3 ([fV, numV (-1), fV] ++ (l.take (n - m)).map numV) ∧ FC fr sv v sp q hp n wn ∧ fr.get (.o (.i (.i .h))) = some (.int 3 ((n - m : Nat) : Int))) (n := n) ?_ ?_
  · exact ⟨Nat.le_refl _, by rw [Nat.sub_self]; exact i6, ⟨rfl, rfl, rfl, rfl, rfl, rfl, rfl⟩, by rw [Nat.sub_self]; rfl⟩
  · rintro m fr M' ⟨j1, j2, j3, j4⟩
    have ⟨f1, f2, f3, f4, f5, f6, f7⟩ := j3
    have ⟨hsl', hx'⟩ := old j2
    cases m with
    | succ m =>
      have g : decide (((n - (m + 1) : Nat) : Int) < (n : Int)) = true := by simp only [decide_eq_true_eq]; omega
      obtain ⟨p, po, pn, a1, a2, a3⟩ := int_at hsl' (i := n - (m + 1)) (by omega)
      simp only [go_sem, reduceCtorEq, Nat.reduceEqDiff, Nat.reduceAdd, Nat.reduceMul, Nat.reduceLeDiff, Nat.reduceSub, Nat.reduceLT, Nat.reduceBEq, Nat.reduceBNe, Int.reduceBEq, Int.reduceBNe, Int.reduceLT, Int.reduceLE, Int.reduceAdd, Int.reduceEq, Int.reduceNe, beq_self_eq_true, bne_self_eq_false, decide_true, decide_false, Bool.not_true, Bool.not_false, Bool.false_eq_true, false_and, and_false, not_true_eq_false, not_false_eq_true, f1, f3, f6, j4, g, a1, a2, a3]
      refine (number_spec h16 _).use ?_
      rintro r M7 hw7 ⟨rfl, b7⟩
      have j7 := j2.quiet hw7 b7
      obtain ⟨G7, s7, w7⟩ := j7.st
      have hlen : ([fV, numV (-1), fV] ++ (l.take (n - (m + 1))).map numV).length = n - (m + 1) + 3 := by simp only [List.length_append, List.length_map, List.length_take, List.length_cons, List.length_nil]; omega
      simp only [go_sem, reduceCtorEq, Nat.reduceEqDiff, Nat.reduceAdd, Nat.reduceMul, Nat.reduceLeDiff, Nat.reduceSub, Nat.reduceLT, Nat.reduceBEq, Nat.reduceBNe, Int.reduceBEq, Int.reduceBNe, Int.reduceLT, Int.reduceLE, Int.reduceAdd, Int.reduceEq, Int.reduceNe, beq_self_eq_true, bne_self_eq_false, decide_true, decide_false, Bool.not_true, Bool.not_false, Bool.false_eq_true, false_and, and_false, not_true_eq_false, not_false_eq_true]
      refine (spush T (cs := []) (f := ⟨0, 0, []⟩) s7 w7 (by rw [hlen]; omega) (Int.le_refl _) (by rw [hlen]; show (0 : Int) + 1 ≤ _; omega) (by rw [hlen]; show _ - (0 : Int) - 1 < 250; omega) (by decide) (.inr (num_plain _)) (by rw [(num_plain _).cnt_]; exact w7.more)).use ?_
      rintro r M8 hw8 ⟨rfl, s8, b8, hh8⟩
      have j8 := j7.next hw8 s8 b8 hh8
      have e1 : IntKind.i64.wrap (((n - (m + 1) : Nat) : Int) + 1) = ((n - m : Nat) : Int) := by rw [wrap64 (by omega) (by omega)]; omega
      simp only [go_sem, reduceCtorEq, Nat.reduceEqDiff, Nat.reduceAdd, Nat.reduceMul, Nat.reduceLeDiff, Nat.reduceSub, Nat.reduceLT, Nat.reduceBEq, Nat.reduceBNe, Int.reduceBEq, Int.reduceBNe, Int.reduceLT, Int.reduceLE, Int.reduceAdd, Int.reduceEq, Int.reduceNe, beq_self_eq_true, bne_self_eq_false, decide_true, decide_false, Bool.not_true, Bool.not_false, Bool.false_eq_true, false_and, and_false, not_true_eq_false, not_false_eq_true, j4, e1]
      refine ⟨m, by omega, by omega, ?_, (j3.set _ _ (by decide)).set _ _ (by decide), by rw [Tr.get_set]; rfl⟩
      have e2 : n - m = n - (m + 1) + 1 := by omega
      have e4 : [fV, numV (-1), fV] ++ (l.take (n - m)).map numV = [fV, numV (-1), fV] ++ (l.take (n - (m + 1))).map numV ++ [numV (l[n - (m + 1)]'(by omega))] := by
        rw [e2, List.take_succ_eq_append_getElem (by omega), List.map_append, List.append_assoc]; rfl
      have j8' := j8
      rw [← e4] at j8'
      exact j8'
    | zero =>
      have g : decide (((n - 0 : Nat) : Int) < (n : Int)) = false := by simp only [decide_eq_false_iff_not]; omega
      simp only [go_sem, reduceCtorEq, Nat.reduceEqDiff, Nat.reduceAdd, Nat.reduceMul, Nat.reduceLeDiff, Nat.reduceSub, Nat.reduceLT, Nat.reduceBEq, Nat.reduceBNe, Int.reduceBEq, Int.reduceBNe, Int.reduceLT, Int.reduceLE, Int.reduceAdd, Int.reduceEq, Int.reduceNe, beq_self_eq_true, bne_self_eq_false, decide_true, decide_false, Bool.not_true, Bool.not_false, Bool.false_eq_true, false_and, and_false, not_true_eq_false, not_false_eq_true, f1, f3, f6, f7, j4, g]
      rw [Nat.sub_zero] at j2
      have hnl : ((l.take n).map numV).length = n := by rw [List.length_map, List.length_take]; omega
      have hgn : ∀ i (hi : i < n), ((l.take n).map numV)[i]? = some (numV (l[i]'(Nat.lt_of_lt_of_le hi hn1))) := by
        intro i hi
        rw [List.getElem?_map, List.getElem?_take, if_pos hi, List.getElem?_eq_getElem (Nat.lt_of_lt_of_le hi hn1)]
        rfl
      have hpn : ∀ x ∈ (l.take n).map numV, plain x := fun x hx => by obtain ⟨y, _, rfl⟩ := List.mem_map.1 hx; exact num_plain y
      generalize hnums : (l.take n).map numV = nums at *
      have hsl3 : ([fV, numV (-1), fV] ++ nums).length = 3 + n := by rw [List.length_append, hnl]; rfl
      have hsub : ([fV, numV (-1), fV] ++ nums).length - 1 - n = 2 := by omega
      obtain ⟨G7, s7, w7⟩ := j2.st
      obtain ⟨o7, g7, ho7⟩ := w7.good (cs := []) (f := ⟨0, 0, []⟩) (by omega) (Int.le_refl _) (by rw [hsl3]; show (0 : Int) + 1 ≤ _; omega) (by decide)
      refine (enter_spec T (cs := []) (f := ⟨0, 0, []⟩) (a := n) (q := wn) (bs := 0) g7 s7 w7 ho7 rfl (by omega) (by omega) (fun x hx => by
        rw [hsub] at hx
        simp at hx
        rw [← hx]; rfl) (by decide) (by omega)).use ?_
      rintro r M8 hw8 ⟨rfl, s8, b8, hh8⟩
      rw [hsub] at s8
      have hdrop : cnt (([fV, numV (-1), fV] ++ nums).drop (2 + 1 + wn)) = 0 := by
        refine cnt_plains fun x hx => hpn x ?_
        rw [List.drop_append] at hx
        have e0 : ([fV, numV (-1), fV] : List Vl).drop (2 + 1 + wn) = [] := List.drop_eq_nil_of_le (by show 3 ≤ _; omega)
        rw [e0, List.nil_append] at hx
        exact List.mem_of_mem_drop hx
      have htake : ([fV, numV (-1), fV] ++ nums).take (2 + 1 + wn) = [fV, numV (-1), fV] ++ nums.take wn := by
        rw [List.take_append]
        have e0 : ([fV, numV (-1), fV] : List Vl).take (2 + 1 + wn) = [fV, numV (-1), fV] := List.take_of_length_le (by show 3 ≤ _; omega)
        rw [e0]
        have e1 : 2 + 1 + wn - ([fV, numV (-1), fV] : List Vl).length = wn := by show 2 + 1 + wn - 3 = wn; omega
        rw [e1]
      have hall : ([fV, numV (-1), fV] ++ nums).take (2 + 1 + wn) ++ List.replicate (wn - n) nilV = [fV, numV (-1), fV] ++ (nums.take wn ++ List.replicate (wn - n) nilV) := by rw [htake, List.append_assoc]
      rw [hdrop, hall, Int.sub_zero] at s8
      have j8 := j2.next hw8 s8 b8 hh8
      have htl : ([fV, numV (-1), fV] ++ (nums.take wn ++ List.replicate (wn - n) nilV)).length = 3 + wn := by
        rw [List.length_append, List.length_append, List.length_take, List.length_replicate, hnl]; show 3 + _ = _; omega
      have ht2 : ([fV, numV (-1), fV] ++ (nums.take wn ++ List.replicate (wn - n) nilV))[2]? = some fV := rfl
      have htk : ∀ i (hi : i < wn), ([fV, numV (-1), fV] ++ (nums.take wn ++ List.replicate (wn - n) nilV))[3 + i]? = some (if h : i < n then numV (l[i]'(Nat.lt_of_lt_of_le h hn1)) else nilV) := by
        intro i hi
        have e0 : [fV, numV (-1), fV].length ≤ 3 + i := by show 3 ≤ _; omega
        rw [List.getElem?_append_right e0]
        have e1 : 3 + i - [fV, numV (-1), fV].length = i := by show 3 + i - 3 = i; omega
        rw [e1]
        by_cases h : i < n
        · rw [List.getElem?_append_left (by rw [List.length_take, hnl]; omega), List.getElem?_take, if_pos hi, hgn i h, dif_pos h]
        · rw [List.getElem?_append_right (by rw [List.length_take, hnl]; omega), dif_neg h, List.getElem?_replicate, if_pos (by rw [List.length_take, hnl]; omega)]
      have htd : cnt (([fV, numV (-1), fV] ++ (nums.take wn ++ List.replicate (wn - n) nilV)).drop 2) = 1 := by
        have e0 : ([fV, numV (-1), fV] ++ (nums.take wn ++ List.replicate (wn - n) nilV)).drop 2 = [fV] ++ (nums.take wn ++ List.replicate (wn - n) nilV) := rfl
        rw [e0, cnt_app, cnt_app, cnt_plains (l := nums.take wn) fun x hx => hpn x (List.mem_of_mem_take hx), cnt_plains (l := List.replicate (wn - n) nilV) fun x hx => by rw [List.eq_of_mem_replicate hx]; exact nil_plain]
        rfl
      have htt : ([fV, numV (-1), fV] ++ (nums.take wn ++ List.replicate (wn - n) nilV)).take 2 = [fV, numV (-1)] := rfl
      generalize hts : [fV, numV (-1), fV] ++ (nums.take wn ++ List.replicate (wn - n) nilV) = t at *
      have j3' := j3.set (.i (.i (.o (.i (.o .h))))) (.bool false) (by decide)
      have ⟨f1, f2, f3, f4, f5, f6, f7⟩ := j3'
      obtain ⟨G8, s8', w8⟩ := j8.st
      have hb2 : (⟨((2 : Nat) : Int), 0, []⟩ : Fr).base = 2 := rfl
      obtain ⟨o8, g8, ho8⟩ := w8.good (cs := [⟨0, 0, []⟩]) (f := ⟨((2 : Nat) : Int), 0, []⟩) (by omega) (by rw [hb2]; decide) (by rw [hb2]; omega) (by decide)
      have hx8 := (old j8).2
      simp only [go_sem, reduceCtorEq, Nat.reduceEqDiff, Nat.reduceAdd, Nat.reduceMul, Nat.reduceLeDiff, Nat.reduceSub, Nat.reduceLT, Nat.reduceBEq, Nat.reduceBNe, Int.reduceBEq, Int.reduceBNe, Int.reduceLT, Int.reduceLE, Int.reduceAdd, Int.reduceEq, Int.reduceNe, beq_self_eq_true, bne_self_eq_false, decide_true, decide_false, Bool.not_true, Bool.not_false, Bool.false_eq_true, false_and, and_false, not_true_eq_false, not_false_eq_true, f1, f3, f6, f7]
      refine (height_spec T (cs := [⟨0, 0, []⟩]) g8 s8').use ?_
      rintro r M9 hw9 ⟨rfl, b9⟩
      have eh : (o8.slots.length : Int) - (⟨((2 : Nat) : Int), 0, []⟩ : Fr).base - 1 = (wn : Int) := by rw [ho8, htl, hb2]; omega
      rw [eh]
      have gh : ((wn : Int) != wn) = false := by simp
      simp only [go_sem, reduceCtorEq, Nat.reduceEqDiff, Nat.reduceAdd, Nat.reduceMul, Nat.reduceLeDiff, Nat.reduceSub, Nat.reduceLT, Nat.reduceBEq, Nat.reduceBNe, Int.reduceBEq, Int.reduceBNe, Int.reduceLT, Int.reduceLE, Int.reduceAdd, Int.reduceEq, Int.reduceNe, beq_self_eq_true, bne_self_eq_false, decide_true, decide_false, Bool.not_true, Bool.not_false, Bool.false_eq_true, false_and, and_false, not_true_eq_false, not_false_eq_true, f1, f3, f6, f7, gh]
      have hj : 2 < o8.slots.length := by rw [ho8, htl]; omega
      refine (fn_spec T (cs := [⟨0, 0, []⟩]) g8 (s8'.quiet b9) (j := 2) hj hb2).use ?_
      rintro r M10 hw10 ⟨rfl, b10⟩
      have hv10 : o8.slots[2] = fV := by
        have h2 : o8.slots[2]? = some fV := by rw [ho8]; exact ht2
        rw [List.getElem?_eq_getElem hj] at h2
        exact Option.some.inj h2
      rw [hv10]
      have j10 := j8.quiet hw10 (b9.trans b10)
      have j9 := j8.quiet hw9 b9
      have hx9 := (old j9).2
      have hx10 := (old j10).2
      have gk : (fV.k == fV.k) = true := by decide
      have gn : (fV.n == fV.n) = true := by decide
      simp only [go_sem, reduceCtorEq, Nat.reduceEqDiff, Nat.reduceAdd, Nat.reduceMul, Nat.reduceLeDiff, Nat.reduceSub, Nat.reduceLT, Nat.reduceBEq, Nat.reduceBNe, Int.reduceBEq, Int.reduceBNe, Int.reduceLT, Int.reduceLE, Int.reduceAdd, Int.reduceEq, Int.reduceNe, beq_self_eq_true, bne_self_eq_false, decide_true, decide_false, Bool.not_true, Bool.not_false, Bool.false_eq_true, false_and, and_false, not_true_eq_false, not_false_eq_true, f4, hx9, hx10, VlA, gk, gn]
      refine loop_wp (I := fun m fr M' => m ≤ wn ∧ WI M2 M' sp hp (fun p => p.num < M.next.num ∨ p = q) ([] ++ [⟨0, 0, []⟩] ++ [⟨((2 : Nat) : Int), 0, []⟩]) 3 t ∧ FC fr sv v sp q hp n wn ∧ fr.get (.i (.i (.i .h))) = some (.int 3 ((wn - m : Nat) : Int))) (n := wn) ?_ ?_
      · exact ⟨Nat.le_refl _, j10, (j3'.set _ _ (by decide)).set _ _ (by decide), by rw [Nat.sub_self]; rw [Tr.get_set]; rfl⟩
      · clear f1 f2 f3 f4 f5 f6 f7
        rintro m fr M' ⟨k1, k2, k3, k4⟩
        have ⟨f1, f2, f3, f4, f5, f6, f7⟩ := k3
        obtain ⟨G8, s8', w8⟩ := k2.st
        obtain ⟨o8, g8, ho8⟩ := w8.good (cs := [⟨0, 0, []⟩]) (f := ⟨((2 : Nat) : Int), 0, []⟩) (by omega) (by rw [hb2]; decide) (by rw [hb2]; omega) (by decide)
        cases m with
        | succ m =>
          have g : decide (((wn - (m + 1) : Nat) : Int) < (wn : Int)) = true := by simp only [decide_eq_true_eq]; omega
          have hj : 3 + (wn - (m + 1)) < o8.slots.length := by rw [ho8, htl]; omega
          have e1 : IntKind.i64.wrap (((wn - (m + 1) : Nat) : Int) + 1) = ((wn - m : Nat) : Int) := by rw [wrap64 (by omega) (by omega)]; omega
          have hv0 := htk (wn - (m + 1)) (by omega)
          rw [← ho8, List.getElem?_eq_getElem hj] at hv0
          have hv0 := Option.some.inj hv0
          by_cases h : wn - (m + 1) < n
          · rw [dif_pos h] at hv0
            have c1 : decide (((wn - (m + 1) : Nat) : Int) < (n : Int)) = true := by simp only [decide_eq_true_eq]; omega
            have c2 : decide ((n : Int) ≤ ((wn - (m + 1) : Nat) : Int)) = false := by simp only [decide_eq_false_iff_not]; omega
            simp only [go_sem, reduceCtorEq, Nat.reduceEqDiff, Nat.reduceAdd, Nat.reduceMul, Nat.reduceLeDiff, Nat.reduceSub, Nat.reduceLT, Nat.reduceBEq, Nat.reduceBNe, Int.reduceBEq, Int.reduceBNe, Int.reduceLT, Int.reduceLE, Int.reduceAdd, Int.reduceEq, Int.reduceNe, beq_self_eq_true, bne_self_eq_false, decide_true, decide_false, Bool.not_true, Bool.not_false, Bool.false_eq_true, false_and, and_false, not_true_eq_false, not_false_eq_true, f1, f3, f6, f7, k4, g, c1]
            refine (reg_spec T (cs := [⟨0, 0, []⟩]) g8 s8' (a := ((wn - (m + 1) : Nat) : Int)) (j := 3 + (wn - (m + 1))) hj (by omega) (by rw [hb2]; omega)).use ?_
            rintro r M11 hw11 ⟨rfl, b11⟩
            rw [hv0]
            have k11 := k2.quiet hw11 b11
            have ⟨hsl0, _⟩ := old k2
            have ⟨hsl', _⟩ := old k11
            obtain ⟨p, po, pn, a1, a2, a3⟩ := int_at hsl' (i := wn - (m + 1)) (by omega)
            obtain ⟨p', po', pn', a1', a2', a3'⟩ := int_at hsl0 (i := wn - (m + 1)) (by omega)
            rw [a1] at a1'
            cases a1'
            simp only [go_sem, reduceCtorEq, Nat.reduceEqDiff, Nat.reduceAdd, Nat.reduceMul, Nat.reduceLeDiff, Nat.reduceSub, Nat.reduceLT, Nat.reduceBEq, Nat.reduceBNe, Int.reduceBEq, Int.reduceBNe, Int.reduceLT, Int.reduceLE, Int.reduceAdd, Int.reduceEq, Int.reduceNe, beq_self_eq_true, bne_self_eq_false, decide_true, decide_false, Bool.not_true, Bool.not_false, Bool.false_eq_true, false_and, and_false, not_true_eq_false, not_false_eq_true, f1, k4, a1, a2, a3, a3']
            refine (number_spec h16 _).use ?_
            rintro r M12 hw12 ⟨rfl, b12⟩
            have k12 := k11.quiet hw12 b12
            simp only [go_sem, reduceCtorEq, Nat.reduceEqDiff, Nat.reduceAdd, Nat.reduceMul, Nat.reduceLeDiff, Nat.reduceSub, Nat.reduceLT, Nat.reduceBEq, Nat.reduceBNe, Int.reduceBEq, Int.reduceBNe, Int.reduceLT, Int.reduceLE, Int.reduceAdd, Int.reduceEq, Int.reduceNe, beq_self_eq_true, bne_self_eq_false, decide_true, decide_false, Bool.not_true, Bool.not_false, Bool.false_eq_true, false_and, and_false, not_true_eq_false, not_false_eq_true, f1, f3, f6, f7, VlA, numV, k4, c2, e1]
            exact ⟨m, by omega, by omega, k12, ((k3.set _ _ (by decide)).set _ _ (by decide)).set _ _ (by decide), by rw [Tr.get_set]; rfl⟩
          · rw [dif_neg h] at hv0
            have c1 : decide (((wn - (m + 1) : Nat) : Int) < (n : Int)) = false := by simp only [decide_eq_false_iff_not]; omega
            have c2 : decide ((n : Int) ≤ ((wn - (m + 1) : Nat) : Int)) = true := by simp only [decide_eq_true_eq]; omega
            simp only [go_sem, reduceCtorEq, Nat.reduceEqDiff, Nat.reduceAdd, Nat.reduceMul, Nat.reduceLeDiff, Nat.reduceSub, Nat.reduceLT, Nat.reduceBEq, Nat.reduceBNe, Int.reduceBEq, Int.reduceBNe, Int.reduceLT, Int.reduceLE, Int.reduceAdd, Int.reduceEq, Int.reduceNe, beq_self_eq_true, bne_self_eq_false, decide_true, decide_false, Bool.not_true, Bool.not_false, Bool.false_eq_true, false_and, and_false, not_true_eq_false, not_false_eq_true, f1, f3, f6, f7, k4, g, c1, c2]
            refine (reg_spec T (cs := [⟨0, 0, []⟩]) g8 s8' (a := ((wn - (m + 1) : Nat) : Int)) (j := 3 + (wn - (m + 1))) hj (by omega) (by rw [hb2]; omega)).use ?_
            rintro r M11 hw11 ⟨rfl, b11⟩
            rw [hv0]
            have k11 := k2.quiet hw11 b11
            simp only [go_sem, reduceCtorEq, Nat.reduceEqDiff, Nat.reduceAdd, Nat.reduceMul, Nat.reduceLeDiff, Nat.reduceSub, Nat.reduceLT, Nat.reduceBEq, Nat.reduceBNe, Int.reduceBEq, Int.reduceBNe, Int.reduceLT, Int.reduceLE, Int.reduceAdd, Int.reduceEq, Int.reduceNe, beq_self_eq_true, bne_self_eq_false, decide_true, decide_false, Bool.not_true, Bool.not_false, Bool.false_eq_true, false_and, and_false, not_true_eq_false, not_false_eq_true]
            refine (null_spec h27).use ?_
            rintro r M12 hw12 ⟨rfl, b12⟩
            have k12 := k11.quiet hw12 b12
            simp only [go_sem, reduceCtorEq, Nat.reduceEqDiff, Nat.reduceAdd, Nat.reduceMul, Nat.reduceLeDiff, Nat.reduceSub, Nat.reduceLT, Nat.reduceBEq, Nat.reduceBNe, Int.reduceBEq, Int.reduceBNe, Int.reduceLT, Int.reduceLE, Int.reduceAdd, Int.reduceEq, Int.reduceNe, beq_self_eq_true, bne_self_eq_false, decide_true, decide_false, Bool.not_true, Bool.not_false, Bool.false_eq_true, false_and, and_false, not_true_eq_false, not_false_eq_true, VlA, nilV, k4, e1]
            exact ⟨m, by omega, by omega, k12, ((k3.set _ _ (by decide)).set _ _ (by decide)).set _ _ (by decide), by rw [Tr.get_set]; rfl⟩
        | zero =>
          have g : decide (((wn - 0 : Nat) : Int) < (wn : Int)) = false := by simp only [decide_eq_false_iff_not]; omega
          simp only [go_sem, reduceCtorEq, Nat.reduceEqDiff, Nat.reduceAdd, Nat.reduceMul, Nat.reduceLeDiff, Nat.reduceSub, Nat.reduceLT, Nat.reduceBEq, Nat.reduceBNe, Int.reduceBEq, Int.reduceBNe, Int.reduceLT, Int.reduceLE, Int.reduceAdd, Int.reduceEq, Int.reduceNe, beq_self_eq_true, bne_self_eq_false, decide_true, decide_false, Bool.not_true, Bool.not_false, Bool.false_eq_true, false_and, and_false, not_true_eq_false, not_false_eq_true, f1, f2, f3, f6, f7, k4, g]
          refine (number_spec h16 _).use ?_
          rintro r M11 hw11 ⟨rfl, b11⟩
          have k11 := k2.quiet hw11 b11
          obtain ⟨G11, s11, w11⟩ := k11.st
          simp only [go_sem, reduceCtorEq, Nat.reduceEqDiff, Nat.reduceAdd, Nat.reduceMul, Nat.reduceLeDiff, Nat.reduceSub, Nat.reduceLT, Nat.reduceBEq, Nat.reduceBNe, Int.reduceBEq, Int.reduceBNe, Int.reduceLT, Int.reduceLE, Int.reduceAdd, Int.reduceEq, Int.reduceNe, beq_self_eq_true, bne_self_eq_false, decide_true, decide_false, Bool.not_true, Bool.not_false, Bool.false_eq_true, false_and, and_false, not_true_eq_false, not_false_eq_true]
          refine (spush T (cs := [⟨0, 0, []⟩]) (f := ⟨((2 : Nat) : Int), 0, []⟩) (v := numV v) s11 w11 (by omega) (by rw [hb2]; decide) (by rw [hb2]; omega) (by rw [hb2]; omega) (by decide) (.inr (num_plain _)) (by rw [(num_plain _).cnt_]; exact w11.more)).use ?_
          rintro r M12 hw12 ⟨rfl, s12, b12, hh12⟩
          have k12 := k11.next hw12 s12 b12 hh12
          obtain ⟨G12, s12', w12⟩ := k12.st
          have htl' : (t ++ [numV v]).length = 4 + wn := by rw [List.length_append, htl]; show 3 + wn + 1 = _; omega
          obtain ⟨o12, g12, ho12⟩ := w12.good (cs := [⟨0, 0, []⟩]) (f := ⟨((2 : Nat) : Int), 0, []⟩) (by omega) (by rw [hb2]; decide) (by rw [hb2]; omega) (by decide)
          simp only [go_sem, reduceCtorEq, Nat.reduceEqDiff, Nat.reduceAdd, Nat.reduceMul, Nat.reduceLeDiff, Nat.reduceSub, Nat.reduceLT, Nat.reduceBEq, Nat.reduceBNe, Int.reduceBEq, Int.reduceBNe, Int.reduceLT, Int.reduceLE, Int.reduceAdd, Int.reduceEq, Int.reduceNe, beq_self_eq_true, bne_self_eq_false, decide_true, decide_false, Bool.not_true, Bool.not_false, Bool.false_eq_true, false_and, and_false, not_true_eq_false, not_false_eq_true, f3]
          refine (leave_spec T (csl := [⟨0, 0, []⟩]) (fl := ⟨((2 : Nat) : Int), 0, []⟩) (v := numV v) (bs := 2) g12 s12' w12 ho12 rfl (by omega) (num_plain _)).use ?_
          rintro r M13 hw13 ⟨rfl, s13, b13, hh13⟩
          have k13 := k12.next hw13 s13 b13 hh13
          have e32 : (3 : Int) - 1 = 2 := rfl
          rw [htd, htt, e32] at k13
          have gb : decide (([⟨0, 0, []⟩] : List Fr).length = 0) = false := rfl
          obtain ⟨G13, s13', w13⟩ := k13.st
          obtain ⟨o13, g13, ho13⟩ := w13.good (cs := []) (f := ⟨0, 0, []⟩) (by show 3 ≤ _; decide) (Int.le_refl _) (by show (0 : Int) + 1 ≤ 3; decide) (by decide)
          simp only [go_sem, reduceCtorEq, Nat.reduceEqDiff, Nat.reduceAdd, Nat.reduceMul, Nat.reduceLeDiff, Nat.reduceSub, Nat.reduceLT, Nat.reduceBEq, Nat.reduceBNe, Int.reduceBEq, Int.reduceBNe, Int.reduceLT, Int.reduceLE, Int.reduceAdd, Int.reduceEq, Int.reduceNe, beq_self_eq_true, bne_self_eq_false, decide_true, decide_false, Bool.not_true, Bool.not_false, Bool.false_eq_true, false_and, and_false, not_true_eq_false, not_false_eq_true, gb, f3]
          refine (height_spec T (cs := []) g13 s13').use ?_
          rintro r M14 hw14 ⟨rfl, b14⟩
          have eh2 : (o13.slots.length : Int) - (⟨0, 0, []⟩ : Fr).base - 1 = 2 := by rw [ho13]; rfl
          rw [eh2]
          simp only [go_sem, reduceCtorEq, Nat.reduceEqDiff, Nat.reduceAdd, Nat.reduceMul, Nat.reduceLeDiff, Nat.reduceSub, Nat.reduceLT, Nat.reduceBEq, Nat.reduceBNe, Int.reduceBEq, Int.reduceBNe, Int.reduceLT, Int.reduceLE, Int.reduceAdd, Int.reduceEq, Int.reduceNe, beq_self_eq_true, bne_self_eq_false, decide_true, decide_false, Bool.not_true, Bool.not_false, Bool.false_eq_true, false_and, and_false, not_true_eq_false, not_false_eq_true, f3]
          refine (reg_spec T (cs := []) g13 (s13'.quiet b14) (a := 0) (j := 1) (by rw [ho13]; show 1 < 3; decide) (by decide) (by rfl)).use ?_
          rintro r M15 hw15 ⟨rfl, b15⟩
          have hv15 : o13.slots[1]'(by rw [ho13]; show 1 < 3; decide) = numV (-1) := by simp [ho13]
          rw [hv15]
          simp only [go_sem, reduceCtorEq, Nat.reduceEqDiff, Nat.reduceAdd, Nat.reduceMul, Nat.reduceLeDiff, Nat.reduceSub, Nat.reduceLT, Nat.reduceBEq, Nat.reduceBNe, Int.reduceBEq, Int.reduceBNe, Int.reduceLT, Int.reduceLE, Int.reduceAdd, Int.reduceEq, Int.reduceNe, beq_self_eq_true, bne_self_eq_false, decide_true, decide_false, Bool.not_true, Bool.not_false, Bool.false_eq_true, false_and, and_false, not_true_eq_false, not_false_eq_true]
          refine (number_spec h16 _).use ?_
          rintro r M16 hw16 ⟨rfl, b16⟩
          simp only [go_sem, reduceCtorEq, Nat.reduceEqDiff, Nat.reduceAdd, Nat.reduceMul, Nat.reduceLeDiff, Nat.reduceSub, Nat.reduceLT, Nat.reduceBEq, Nat.reduceBNe, Int.reduceBEq, Int.reduceBNe, Int.reduceLT, Int.reduceLE, Int.reduceAdd, Int.reduceEq, Int.reduceNe, beq_self_eq_true, bne_self_eq_false, decide_true, decide_false, Bool.not_true, Bool.not_false, Bool.false_eq_true, false_and, and_false, not_true_eq_false, not_false_eq_true, VlA, numV, f3]
          refine (reg_spec T (cs := []) g13 (s13'.quiet ((b14.trans b15).trans b16)) (a := 1) (j := 2) (by rw [ho13]; show 2 < 3; decide) (by decide) (by rfl)).use ?_
          rintro r M17 hw17 ⟨rfl, b17⟩
          have hv17 : o13.slots[2]'(by rw [ho13]; show 2 < 3; decide) = numV v := by simp [ho13]
          rw [hv17]
          simp only [go_sem, reduceCtorEq, Nat.reduceEqDiff, Nat.reduceAdd, Nat.reduceMul, Nat.reduceLeDiff, Nat.reduceSub, Nat.reduceLT, Nat.reduceBEq, Nat.reduceBNe, Int.reduceBEq, Int.reduceBNe, Int.reduceLT, Int.reduceLE, Int.reduceAdd, Int.reduceEq, Int.reduceNe, beq_self_eq_true, bne_self_eq_false, decide_true, decide_false, Bool.not_true, Bool.not_false, Bool.false_eq_true, false_and, and_false, not_true_eq_false, not_false_eq_true, f2]
          refine (number_spec h16 _).use ?_
          rintro r M18 hw18 ⟨rfl, b18⟩
          have k18 := k13.quiet hw18 ((((b14.trans b15).trans b16).trans b17).trans b18)
          simp only [go_sem, reduceCtorEq, Nat.reduceEqDiff, Nat.reduceAdd, Nat.reduceMul, Nat.reduceLeDiff, Nat.reduceSub, Nat.reduceLT, Nat.reduceBEq, Nat.reduceBNe, Int.reduceBEq, Int.reduceBNe, Int.reduceLT, Int.reduceLE, Int.reduceAdd, Int.reduceEq, Int.reduceNe, beq_self_eq_true, bne_self_eq_false, decide_true, decide_false, Bool.not_true, Bool.not_false, Bool.false_eq_true, false_and, and_false, not_true_eq_false, not_false_eq_true, VlA, numV, f3]
          obtain ⟨G18, s18, w18⟩ := k18.st
          obtain ⟨o18, g18, ho18⟩ := w18.good (cs := []) (f := ⟨0, 0, []⟩) (by show 3 ≤ _; decide) (Int.le_refl _) (by show (0 : Int) + 1 ≤ 3; decide) (by decide)
          refine (leave_spec T (csl := []) (fl := ⟨0, 0, []⟩) (s := [fV, numV (-1)]) (v := numV v) (bs := 0) g18 s18 w18 ho18 rfl (by decide) (num_plain _)).use ?_
          rintro r M19 hw19 ⟨rfl, s19, b19, hh19⟩
          have k19 := k18.next hw19 s19 b19 hh19
          have e19 : (2 : Int) - cnt ([fV, numV (-1)].drop 0) = 1 := by decide
          have t19 : [fV, numV (-1)].take 0 ++ [numV v] = [numV v] := rfl
          rw [e19, t19] at k19
          have gb2 : decide (([] : List Fr).length = 0) = true := rfl
          obtain ⟨G19, s19', w19⟩ := k19.st
          simp only [go_sem, reduceCtorEq, Nat.reduceEqDiff, Nat.reduceAdd, Nat.reduceMul, Nat.reduceLeDiff, Nat.reduceSub, Nat.reduceLT, Nat.reduceBEq, Nat.reduceBNe, Int.reduceBEq, Int.reduceBNe, Int.reduceLT, Int.reduceLE, Int.reduceAdd, Int.reduceEq, Int.reduceNe, beq_self_eq_true, bne_self_eq_false, decide_true, decide_false, Bool.not_true, Bool.not_false, Bool.false_eq_true, false_and, and_false, not_true_eq_false, not_false_eq_true, gb2, f3, f5]
          refine (co_spec T s19').use ?_
          rintro r M20 hw20 ⟨rfl, b20⟩
          have k20 := k19.quiet hw20 b20
          obtain ⟨G20, s20, w20⟩ := k20.st
          obtain ⟨cv, hz⟩ := k20.spc
          obtain ⟨own, Z, rfl, rfl, rfl, hP, hB, hH⟩ := s20.open_ hz
          obtain ⟨o2, m1, m2, m3⟩ := w20.o2
          simp only [go_sem, reduceCtorEq, Nat.reduceEqDiff, Nat.reduceAdd, Nat.reduceMul, Nat.reduceLeDiff, Nat.reduceSub, Nat.reduceLT, Nat.reduceBEq, Nat.reduceBNe, Int.reduceBEq, Int.reduceBNe, Int.reduceLT, Int.reduceLE, Int.reduceAdd, Int.reduceEq, Int.reduceNe, beq_self_eq_true, bne_self_eq_false, decide_true, decide_false, Bool.not_true, Bool.not_false, Bool.false_eq_true, false_and, and_false, not_true_eq_false, not_false_eq_true, VlA]
          refine (obj_some T.h25 T.h75 T.h76 hH m1 (by rw [m3]; show 1 ≤ most; decide)).use ?_
          rintro r M21 hw21 ⟨sv', rfl, hfr', b21⟩
          have hrow := hfr'.rows
          rw [m3] at hrow
          have hlen' : slLen sv' = some 1 := hrow.len
          have hcell' := hfr'.cell
          have b22 := But.fill hw21 (.cells [.int 3 0, .int 3 0, .nilslice, .str 0 0, .int 3 0] false) (.cells [.int 3 o2.kind, .int 3 o2.count, sv', .str o2.tl o2.tn, .int 3 o2.mark] false)
          have w22 := hw21.fill (.cells [.int 3 0, .int 3 0, .nilslice, .str 0 0, .int 3 0] false) (.cells [.int 3 o2.kind, .int 3 o2.count, sv', .str o2.tl o2.tn, .int 3 o2.mark] false)
          have x22 : ((M21.new (.cells [.int 3 0, .int 3 0, .nilslice, .str 0 0, .int 3 0] false)).put M21.next (.cells [.int 3 o2.kind, .int 3 o2.count, sv', .str o2.tl o2.tn, .int 3 o2.mark] false)).get M21.next = some (.cells [.int 3 o2.kind, .int 3 o2.count, sv', .str o2.tl o2.tn, .int 3 o2.mark] false) := by simp [Mem.put]
          have g11 : (((1 : Nat) : Int) == 1) = true := rfl
          simp only [go_sem, reduceCtorEq, Nat.reduceEqDiff, Nat.reduceAdd, Nat.reduceMul, Nat.reduceLeDiff, Nat.reduceSub, Nat.reduceLT, Nat.reduceBEq, Nat.reduceBNe, Int.reduceBEq, Int.reduceBNe, Int.reduceLT, Int.reduceLE, Int.reduceAdd, Int.reduceEq, Int.reduceNe, beq_self_eq_true, bne_self_eq_false, decide_true, decide_false, Bool.not_true, Bool.not_false, Bool.false_eq_true, false_and, and_false, not_true_eq_false, not_false_eq_true, ObA, hcell', hlen', g11, f2]
          generalize hM22 : (M21.new (.cells [.int 3 0, .int 3 0, .nilslice, .str 0 0, .int 3 0] false)).put M21.next (.cells [.int 3 o2.kind, .int 3 o2.count, sv', .str o2.tl o2.tn, .int 3 o2.mark] false) = M22 at *
          refine (number_spec h16 _).use ?_
          rintro r M23 hw23 ⟨rfl, b23⟩
          have x23 := b23.get _ _ id x22
          have hrow22 := hrow.old b22.old
          have hrow23 := hrow22.old b23.old
          obtain ⟨p, po, a1, a2⟩ := hrow22.at_ (i := 0) (by rw [vlL_len]; exact Nat.one_pos)
          obtain ⟨p', po', a1', a2'⟩ := hrow23.at_ (i := 0) (by rw [vlL_len]; exact Nat.one_pos)
          rw [a1] at a1'
          cases a1'
          have c1 : slAt sv' = some (p, po, 1) := a1
          have c2 : MB.cellsAt (M22.get p) (po + 0) 2 = some [.int 3 3, .int 3 v] := by
            have e : po + 0 * 2 = po + 0 := by omega
            rw [e] at a2
            exact a2
          have c3 : MB.cellsAt (M23.get p) (po + 0) 2 = some [.int 3 3, .int 3 v] := by
            have e : po + 0 * 2 = po + 0 := by omega
            rw [e] at a2'
            exact a2'
          have g01 : (0 : Nat) < 1 := by omega
          simp only [go_sem, reduceCtorEq, Nat.reduceEqDiff, Nat.reduceAdd, Nat.reduceMul, Nat.reduceLeDiff, Nat.reduceSub, Nat.reduceLT, Nat.reduceBEq, Nat.reduceBNe, Int.reduceBEq, Int.reduceBNe, Int.reduceLT, Int.reduceLE, Int.reduceAdd, Int.reduceEq, Int.reduceNe, beq_self_eq_true, bne_self_eq_false, decide_true, decide_false, Bool.not_true, Bool.not_false, Bool.false_eq_true, false_and, and_false, not_true_eq_false, not_false_eq_true, VlA, numV, x22, x23, c1, c2, c3, g01]
          refine (refs_one T h30 (v := numV v) hrow23 (refV_no (num_plain v).1)).use ?_
          rintro r M24 hw24 ⟨rfl, b24⟩
          have k24 := k20.quiet hw24 ((b21.trans b22).trans (b23.trans b24))
          obtain ⟨cv4, hz4⟩ := k24.spc
          obtain ⟨G24, s24, w24⟩ := k24.st
          obtain ⟨own4, Z4, y1, y2, y3, hP4, hB4, hH4⟩ := s24.open_ hz4
          obtain ⟨o1, m4, m5, m6⟩ := w24.o1
          simp only [go_sem, reduceCtorEq, Nat.reduceEqDiff, Nat.reduceAdd, Nat.reduceMul, Nat.reduceLeDiff, Nat.reduceSub, Nat.reduceLT, Nat.reduceBEq, Nat.reduceBNe, Int.reduceBEq, Int.reduceBNe, Int.reduceLT, Int.reduceLE, Int.reduceAdd, Int.reduceEq, Int.reduceNe, beq_self_eq_true, bne_self_eq_false, decide_true, decide_false, Bool.not_true, Bool.not_false, Bool.false_eq_true, false_and, and_false, not_true_eq_false, not_false_eq_true, f5]
          refine (obj_some T.h25 T.h75 T.h76 hH4 m4 (by rw [w24.flat o1 m4]; exact Nat.zero_le _)).use ?_
          rintro r M25 hw25 ⟨sv5, rfl, hfr5, b25⟩
          simp only [go_sem, reduceCtorEq, Nat.reduceEqDiff, Nat.reduceAdd, Nat.reduceMul, Nat.reduceLeDiff, Nat.reduceSub, Nat.reduceLT, Nat.reduceBEq, Nat.reduceBNe, Int.reduceBEq, Int.reduceBNe, Int.reduceLT, Int.reduceLE, Int.reduceAdd, Int.reduceEq, Int.reduceNe, beq_self_eq_true, bne_self_eq_false, decide_true, decide_false, Bool.not_true, Bool.not_false, Bool.false_eq_true, false_and, and_false, not_true_eq_false, not_false_eq_true, ObA, m6]
end Go.Proofs.Ythpnhdopheofcaa

end
section
namespace Go.Proofs.Ythpnhdopheofcaa
open Go.Dx
variable {tbl : Nat → Option CFunc}

theorem calls_arg (T : SkT tbl) (h4 : tbl 4 = some cf4) {cw : CFunc} (h13 : tbl 13 = some cw) (hcw : cw = ⟨.skip, [], some (.bool true)⟩) (h14 : tbl 14 = some cf14) (h16 : tbl 16 = some cf16) (h27 : tbl 27 = some cf27) (h30 : tbl 30 = some cf30) {W : World} {v : Value} {sv : AV} {len : Nat} {xs : List (List AV)} {a n : Int}
    (h : ArgSl [.i .i64] W v sv len xs) (ha : (Lit.int .u8 a).wf = true) :
    CallW tbl 4 (.cons sv (.cons (.int 4 a) (.cons (.int 3 n) .nil))) (argM (argO sv xs)) fun r _ => r = .ret (.bool true) := by
  subst hcw
  obtain ⟨l, rfl⟩ := ints_of h.okRows
  have hr := h.rows
  exact stackCalls (l := l.take len) T h4 h13 h14 h16 h27 h30 (by simpa [IntL, List.map_take] using hr) (u8_of ha)
end Go.Proofs.Ythpnhdopheofcaa

end
