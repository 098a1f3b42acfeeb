import Derived.Test.YthpnhdopheofcaaDxWk
import Derived.Test.YthpnhdopheofcaaSt
import Derived.Test.YthpnhdopheofcaaFns
set_option linter.unusedSimpArgs false
set_option linter.unusedVariables false
section
namespace Go.Proofs.Ythpnhdopheofcaa
open Go.Dx
variable {tbl : Nat → Option CFunc}
structure Fr where
  base : Int
  pc : Int
  tries : List (Int × Int)
def FrR (f : Fr) (tv : AV) : List AV := [.int 3 f.base, .int 3 f.pc, tv]
def FrL (l : List Fr) (tv : Nat → AV) : List (List AV) := l.mapIdx fun i f => FrR f (tv i)
theorem frL_len (l : List Fr) (tv : Nat → AV) : (FrL l tv).length = l.length := by simp [FrL]
theorem frL_at (l : List Fr) (tv : Nat → AV) {i : Nat} (hi : i < l.length) : (FrL l tv)[i]? = some (FrR l[i] (tv i)) := by simp [FrL, hi]
structure SkY where
  sp : Pos
  hp : Pos
  cv : AV
  tv : Nat → AV
structure SkB (M : Mem) (own : Own) (Z : SkY) (co : Int) (calls : List Fr) : Prop where
  inn : own.in M
  spo : own Z.sp = some (20, 0)
  spc : M.get Z.sp = some (.cells [.ptr Z.hp 0, .int 3 8, .int 3 co, Z.cv] false)
  cal : SlO M own (21, 0) Z.cv 3 (FrL calls Z.tv)
  try_ : ∀ i (hi : i < calls.length), SlO M own (22, (i : Int)) (Z.tv i) 2 (PairL (calls[i]'hi).tries)
def StackIs (M : Mem) (sp : Pos) (P : Pos → Prop) (co : Int) (calls : List Fr) (G : Hp) : Prop :=
  ∃ own Z, Z.sp = sp ∧ (∀ p, P p → own p = none ∧ p.num < M.next.num) ∧ SkB M own Z co calls ∧ HeapIs M Z.hp (fun p => P p ∨ own p ≠ none) G
theorem SkB.keep {M M' : Mem} {own : Own} {Z : SkY} {co : Int} {calls : List Fr} (h : SkB M own Z co calls) (hb : But (fun p => own p = none) M M') : SkB M' own Z co calls := by
  have k : ∀ p b t, own p = some t → M.get p = some b → M'.get p = some b := fun p b t ho hp => hb.get p b (by rw [ho]; simp) hp
  have ks : ∀ {t v size L}, SlO M own t v size L → SlO M' own t v size L := fun hs => hs.keep (fun p b ho hp => k p b _ ho hp) fun _ h => h
  exact ⟨Own.in.mono h.inn hb.next, h.spo, k _ _ _ h.spo h.spc, ks h.cal, fun i hi => ks (h.try_ i hi)⟩
theorem StackIs.frame {M M' : Mem} {sp : Pos} {P : Pos → Prop} {co : Int} {calls : List Fr} {G : Hp} (h : StackIs M sp P co calls G) (hb : But P M M') : StackIs M' sp P co calls G := by
  obtain ⟨own, Z, h1, h2, h3, h4⟩ := h
  exact ⟨own, Z, h1, fun p hp => ⟨(h2 p hp).1, Nat.lt_of_lt_of_le (h2 p hp).2 hb.next⟩, h3.keep (hb.mono fun p hp => (h2 p hp).1), h4.frame (hb.mono fun p hp => .inl hp)⟩
theorem StackIs.quiet {M M' : Mem} {sp : Pos} {P : Pos → Prop} {co : Int} {calls : List Fr} {G : Hp} (h : StackIs M sp P co calls G) (hb : But (fun _ => False) M M') : StackIs M' sp P co calls G := h.frame (hb.any _)
theorem n_spec (h : tbl 69 = some cf69) {M : Mem} {sp : Pos} {P : Pos → Prop} {co : Int} {calls : List Fr} {G : Hp} (hS : StackIs M sp P co calls G) :
    CallW tbl 69 (.cons (.ptr sp 0) .nil) M fun r M' => r = .ret (.int 3 co) ∧ M' = M := by
  obtain ⟨own, Z, rfl, hP, hB, hH⟩ := hS
  refine CallW.intro h rfl (fr := .nod (.val .leaf (.ptr Z.sp 0) .leaf) .leaf) rfl ?_
  simp only [go_sem, cf69, hB.spc]
theorem top_spec (h : tbl 70 = some cf70) {M : Mem} {own : Own} {Z : SkY} {co : Int} {calls : List Fr} (hB : SkB M own Z co calls) (hc : calls ≠ []) (hl : calls.length < 2 ^ 62) :
    ∃ p o n, slAt Z.cv = some (p, o, n) ∧ CallW tbl 70 (.cons (.ptr Z.sp 0) .nil) M fun r M' => r = .ret (.ptr p (o + (calls.length - 1) * 3)) ∧ M' = M := by
  have h0 : 0 < calls.length := List.length_pos_iff.2 hc
  obtain ⟨p, o, a1, a2⟩ := hB.cal.rows.at_ (i := calls.length - 1) (by rw [frL_len]; omega)
  rw [frL_len] at a1
  refine ⟨p, o, _, a1, ?_⟩
  refine CallW.intro h rfl (fr := .nod (.val .leaf (.ptr Z.sp 0) .leaf) .leaf) rfl ?_
  have hlen := hB.cal.len
  rw [frL_len] at hlen
  have e0 : IntKind.i64.wrap ((calls.length : Int) - 1) = ((calls.length - 1 : Nat) : Int) := by rw [wrap64 (by omega) (by omega)]; omega
  have hlt : calls.length - 1 < calls.length := by omega
  simp only [go_sem, cf70, hB.spc, hlen, e0, a1, hlt]
end Go.Proofs.Ythpnhdopheofcaa
end
section
namespace Go.Proofs.Ythpnhdopheofcaa
open Go.Dx
variable {tbl : Nat → Option CFunc}
section
variable (h25 : tbl 25 = some cf25) (h69 : tbl 69 = some cf69) (h72 : tbl 72 = some cf72) (h75 : tbl 75 = some cf75) (h76 : tbl 76 = some cf76)
include h25 h69 h72 h75 h76
theorem slots_spec {M : Mem} {sp : Pos} {P : Pos → Prop} {co : Int} {calls : List Fr} {G : Hp} {o : Ob} (hS : StackIs M sp P co calls G) (ho : G.objs co = some o) (hl : o.slots.length ≤ most) :
    CallW tbl 72 (.cons (.ptr sp 0) .nil) M fun r M' => r = .ret (.int 3 o.slots.length) ∧ But (fun _ => False) M M' := by
  have hS0 := hS
  obtain ⟨own, Z, rfl, hP, hB, hH⟩ := hS
  refine CallW.intro h72 rfl (fr := .nod (.val .leaf (.ptr Z.sp 0) .leaf) .leaf) rfl ?_
  simp only [go_sem, cf72]
  refine (n_spec h69 hS0).use ?_
  rintro r M1 hw1 ⟨rfl, rfl⟩
  simp only [go_sem, hB.spc]
  refine (obj_some h25 h75 h76 hH ho hl).use ?_
  rintro r M2 hw2 ⟨sv, rfl, hf, b⟩
  have hlen := hf.rows.len
  rw [vlL_len] at hlen
  simp only [go_sem, ObA, hlen]
  first | exact b | exact ⟨rfl, b⟩
end
section
variable (h25 : tbl 25 = some cf25) (h67 : tbl 67 = some cf67) (h69 : tbl 69 = some cf69) (h70 : tbl 70 = some cf70) (h72 : tbl 72 = some cf72) (h75 : tbl 75 = some cf75) (h76 : tbl 76 = some cf76)
include h25 h67 h69 h70 h72 h75 h76
theorem state_ok {M : Mem} {sp : Pos} {P : Pos → Prop} {co : Int} {cs : List Fr} {f : Fr} {G : Hp} {o : Ob} (hS : StackIs M sp P co (cs ++ [f]) G) (ho : G.objs co = some o) (hk : o.kind = 8) (hl : o.slots.length ≤ most) (hb : 0 ≤ f.base ∧ f.base + 1 ≤ o.slots.length) (hcl : cs.length < 2 ^ 30) :
    CallW tbl 67 (.cons (.ptr sp 0) .nil) M fun r M' => r = .ret (.int 3 0) ∧ But (fun _ => False) M M' := by
  have hS0 := hS
  obtain ⟨own, Z, rfl, hP, hB, hH⟩ := hS
  refine CallW.intro h67 rfl (fr := .nod (.val .leaf (.ptr Z.sp 0) .leaf) .leaf) rfl ?_
  have hlen := hB.cal.len
  rw [frL_len] at hlen
  have g1 : ((((cs ++ [f]).length : Nat) : Int) == 0) = false := by simp; omega
  simp only [go_sem, cf67, hB.spc, hlen, g1]
  refine (n_spec h69 hS0).use ?_
  rintro r M1 hw1 ⟨rfl, rfl⟩
  simp only [go_sem, hB.spc]
  refine (obj_some h25 h75 h76 hH ho hl).use ?_
  rintro r M2 hw2 ⟨sv, rfl, hf, b⟩
  have g2 : (o.kind != 8) = false := by simp [hk]
  simp only [go_sem, ObA, g2]
  refine (slots_spec h25 h69 h72 h75 h76 (hS0.quiet b) ho hl).use ?_
  rintro r M3 hw3 ⟨rfl, b3⟩
  simp only [go_sem]
  have hB3 := (hB.keep ((b.trans b3).any _))
  obtain ⟨p, po, pn, a1, htop⟩ := top_spec h70 hB3 (by simp) (by simp; omega)
  refine htop.use ?_
  rintro r M4 hw4 ⟨rfl, rfl⟩
  obtain ⟨q, u, c1, c2⟩ := hB3.cal.rows.at_ (i := cs.length) (by rw [frL_len]; simp)
  rw [a1] at c1
  cases c1
  rw [frL_at _ _ (by simp)] at c2
  have c3 : MB.cell (M4.get p) (po + cs.length * 3) = some (.int 3 f.base) := by have := MB.cell_row c2 (j := 0) (by omega); simpa [FrR] using this
  have e1 : (cs ++ [f]).length - 1 = cs.length := by simp
  have e2 : IntKind.i64.wrap (f.base + 1) = f.base + 1 := wrap64 (by omega) (by simp [most] at hl; omega)
  have g3 : decide ((o.slots.length : Int) < f.base + 1) = false := by simp; omega
  simp only [go_sem, e1, Nat.add_zero, c3, e2, g3]
  first | exact b.trans b3 | exact ⟨rfl, b.trans b3⟩
end
end Go.Proofs.Ythpnhdopheofcaa
end
section
namespace Go.Proofs.Ythpnhdopheofcaa
open Go.Dx
variable {tbl : Nat → Option CFunc}
structure SkT (tbl : Nat → Option CFunc) : Prop where
  h15 : tbl 15 = some cf15
  h17 : tbl 17 = some cf17
  h18 : tbl 18 = some cf18
  h19 : tbl 19 = some cf19
  h20 : tbl 20 = some cf20
  h24 : tbl 24 = some cf24
  h26 : tbl 26 = some cf26
  h28 : tbl 28 = some cf28
  h29 : tbl 29 = some cf29
  h31 : tbl 31 = some cf31
  h40 : tbl 40 = some cf40
  h48 : tbl 48 = some cf48
  h78 : tbl 78 = some cf78
  h84 : tbl 84 = some cf84
  h99 : tbl 99 = some cf99
  h130 : tbl 130 = some cf130
  h21 : tbl 21 = some cf21
  h22 : tbl 22 = some cf22
  h23 : tbl 23 = some cf23
  h25 : tbl 25 = some cf25
  h37 : tbl 37 = some cf37
  h38 : tbl 38 = some cf38
  h67 : tbl 67 = some cf67
  h68 : tbl 68 = some cf68
  h69 : tbl 69 = some cf69
  h70 : tbl 70 = some cf70
  h71 : tbl 71 = some cf71
  h72 : tbl 72 = some cf72
  h73 : tbl 73 = some cf73
  h74 : tbl 74 = some cf74
  h75 : tbl 75 = some cf75
  h76 : tbl 76 = some cf76
  h77 : tbl 77 = some cf77
  h80 : tbl 80 = some cf80
  h81 : tbl 81 = some cf81
  h83 : tbl 83 = some cf83
  h85 : tbl 85 = some cf85
  h115 : tbl 115 = some cf115
  h116 : tbl 116 = some cf116
  h117 : tbl 117 = some cf117
  h120 : tbl 120 = some cf120
  h143 : tbl 143 = some cf143
def HpOf (M : Mem) (sp hp : Pos) : Prop := ∃ co cv, M.get sp = some (.cells [.ptr hp 0, .int 3 8, .int 3 co, cv] false)
theorem HpOf.same {M M1 : Mem} {sp hp0 hp : Pos} {co : Int} {cv : AV} (h : HpOf M sp hp0) (hb : But (fun _ => False) M M1) (hs : M1.get sp = some (.cells [.ptr hp 0, .int 3 8, .int 3 co, cv] false)) : hp = hp0 := by
  obtain ⟨co', cv', h⟩ := h
  have := hb.get _ _ id h
  rw [hs] at this
  simp only [Option.some.injEq, MB.cells.injEq, List.cons.injEq, AV.ptr.injEq] at this
  exact this.1.1.1
structure Good (G : Hp) (co : Int) (cs : List Fr) (f : Fr) (o : Ob) : Prop where
  obj : G.objs co = some o
  kind : o.kind = 8
  len : o.slots.length ≤ 2 ^ 30
  low : 0 ≤ f.base
  base : f.base + 1 ≤ o.slots.length
  calls : cs.length < 2 ^ 30
theorem Good.most {G : Hp} {co : Int} {cs : List Fr} {f : Fr} {o : Ob} (h : Good G co cs f o) : o.slots.length ≤ Go.Dx.most := by have := h.len; simp only [Go.Dx.most]; omega
theorem Good.state (T : SkT tbl) {M : Mem} {sp : Pos} {P : Pos → Prop} {co : Int} {cs : List Fr} {f : Fr} {G : Hp} {o : Ob} (h : Good G co cs f o) (hS : StackIs M sp P co (cs ++ [f]) G) :
    CallW tbl 67 (.cons (.ptr sp 0) .nil) M fun r M' => r = .ret (.int 3 0) ∧ But (fun _ => False) M M' :=
  state_ok T.h25 T.h67 T.h69 T.h70 T.h72 T.h75 T.h76 hS h.obj h.kind h.most ⟨h.low, h.base⟩ h.calls
theorem Good.slots (T : SkT tbl) {M : Mem} {sp : Pos} {P : Pos → Prop} {co : Int} {cs : List Fr} {f : Fr} {G : Hp} {o : Ob} (h : Good G co cs f o) (hS : StackIs M sp P co (cs ++ [f]) G) :
    CallW tbl 72 (.cons (.ptr sp 0) .nil) M fun r M' => r = .ret (.int 3 o.slots.length) ∧ But (fun _ => False) M M' :=
  slots_spec T.h25 T.h69 T.h72 T.h75 T.h76 hS h.obj h.most
theorem Good.top (T : SkT tbl) {M : Mem} {own : Own} {Z : SkY} {co : Int} {cs : List Fr} {f : Fr} (hB : SkB M own Z co (cs ++ [f])) (hc : cs.length < 2 ^ 30) :
    ∃ p o n, slAt Z.cv = some (p, o, n) ∧ (CallW tbl 70 (.cons (.ptr Z.sp 0) .nil) M fun r M' => r = .ret (.ptr p (o + cs.length * 3)) ∧ M' = M) ∧
      MB.cell (M.get p) (o + cs.length * 3) = some (.int 3 f.base) ∧ MB.cell (M.get p) (o + cs.length * 3 + 1) = some (.int 3 f.pc) ∧ MB.cell (M.get p) (o + cs.length * 3 + 2) = some (Z.tv cs.length) ∧ own p = some (21, 0) := by
  obtain ⟨p, po, pn, a1, htop⟩ := top_spec T.h70 hB (by simp) (by simp; omega)
  obtain ⟨q, u, c1, c2⟩ := hB.cal.rows.at_ (i := cs.length) (by rw [frL_len]; simp)
  rw [a1] at c1
  cases c1
  rw [frL_at _ _ (by simp)] at c2
  have e1 : (cs ++ [f]).length - 1 = cs.length := by simp
  rw [e1] at htop
  have c3 : MB.cell (M.get p) (po + cs.length * 3) = some (.int 3 f.base) := by have := MB.cell_row c2 (j := 0) (by omega); simpa [FrR] using this
  have c4 : MB.cell (M.get p) (po + cs.length * 3 + 1) = some (.int 3 f.pc) := by have := MB.cell_row c2 (j := 1) (by omega); simpa [FrR] using this
  have c5 : MB.cell (M.get p) (po + cs.length * 3 + 2) = some (Z.tv cs.length) := by have := MB.cell_row c2 (j := 2) (by omega); simpa [FrR] using this
  exact ⟨p, po, _, a1, htop, c3, c4, c5, hB.cal.own_ (fun e => by have := congrArg List.length e; rw [frL_len] at this; simp at this) a1⟩
theorem height_spec (T : SkT tbl) {M : Mem} {sp : Pos} {P : Pos → Prop} {co : Int} {cs : List Fr} {f : Fr} {G : Hp} {o : Ob} (h : Good G co cs f o) (hS : StackIs M sp P co (cs ++ [f]) G) :
    CallW tbl 21 (.cons (.ptr sp 0) .nil) M fun r M' => r = .ret (.int 3 (o.slots.length - f.base - 1)) ∧ But (fun _ => False) M M' := by
  refine CallW.intro T.h21 rfl (fr := .nod (.val .leaf (.ptr sp 0) .leaf) .leaf) rfl ?_
  simp only [go_sem, cf21]
  refine (h.state T hS).use ?_
  rintro r M1 hw1 ⟨rfl, b1⟩
  simp only [go_sem]
  refine (h.slots T (hS.quiet b1)).use ?_
  rintro r M2 hw2 ⟨rfl, b2⟩
  simp only [go_sem]
  obtain ⟨own, Z, rfl, hP, hB, hH⟩ := hS.quiet (b1.trans b2)
  obtain ⟨p, po, pn, a1, htop, c0, c1, c2, _⟩ := Good.top T hB h.calls
  refine htop.use ?_
  rintro r M3 hw3 ⟨rfl, rfl⟩
  have h1 := h.len; have h2 := h.low; have h3 := h.base
  have e1 : IntKind.i64.wrap ((o.slots.length : Int) - f.base) = o.slots.length - f.base := wrap64 (by omega) (by omega)
  have e2 : IntKind.i64.wrap ((o.slots.length : Int) - f.base - 1) = o.slots.length - f.base - 1 := wrap64 (by omega) (by omega)
  simp only [go_sem, Nat.add_zero, c0, e1, e2]
  first | exact b1.trans b2 | exact ⟨rfl, b1.trans b2⟩
end Go.Proofs.Ythpnhdopheofcaa
end
section
namespace Go.Proofs.Ythpnhdopheofcaa
open Go.Dx
variable {tbl : Nat → Option CFunc}
theorem But_reserve (M : Mem) (S : Pos → Prop) : But S M ⟨M.next.succ, M.get⟩ := ⟨by show M.next.num ≤ M.next.succ.num; rw [Pos.num_succ]; omega, fun _ _ _ h => h⟩
theorem slot_spec (T : SkT tbl) {M : Mem} {sp : Pos} {P : Pos → Prop} {co : Int} {cs : List Fr} {f : Fr} {G : Hp} {o : Ob} (h : Good G co cs f o) (hS : StackIs M sp P co (cs ++ [f]) G) {b : Int} {j : Nat} (hj : j < o.slots.length) (hb : f.base + b = (j : Int)) :
    CallW tbl 74 (.cons (.ptr sp 0) (.cons (.int 3 b) .nil)) M fun r M' => r = .ret (VlA o.slots[j]) ∧ But (fun _ => False) M M' := by
  refine CallW.wf fun hw => ?_
  refine CallW.intro T.h74 rfl (fr := .nod (.val .leaf (.ptr sp 0) .leaf) (.val .leaf (.int 3 b) .leaf)) rfl ?_
  simp only [go_sem, cf74]
  have b0 := But.new (S := fun _ => False) hw (.cells [.int 3 0, .int 3 0] false)
  refine (h.state T (hS.quiet b0)).use ?_
  rintro r M1 hw1 ⟨rfl, b1⟩
  have hS1 := hS.quiet (b0.trans b1)
  simp only [go_sem]
  have hS2 := hS1.quiet (But_reserve M1 _)
  refine (n_spec T.h69 hS2).use ?_
  rintro r M2 hw2 ⟨rfl, rfl⟩
  simp only [go_sem]
  obtain ⟨own, Z, rfl, hP, hB, hH⟩ := hS2
  obtain ⟨p, po, pn, a1, htop, c0, c1, c2, _⟩ := Good.top T hB h.calls
  refine htop.use ?_
  rintro r M3 hw3 ⟨rfl, rfl⟩
  have hspc : M1.get Z.sp = some (.cells [.ptr Z.hp 0, .int 3 8, .int 3 co, Z.cv] false) := hB.spc
  have c0' : MB.cell (M1.get p) (po + cs.length * 3) = some (.int 3 f.base) := c0
  have e2 : IntKind.i64.wrap (f.base + b) = (j : Int) := by rw [hb]; have := h.len; exact wrap64 (by omega) (by omega)
  simp only [go_sem, hspc, Nat.add_zero, c0', e2]
  refine (at_some T.h80 T.h75 hH h.obj hj).use ?_
  rintro r M4 hw4 ⟨rfl, b4⟩
  have hn : M1.next.succ.num ≤ M4.next.num := b4.next
  have hq : (M1.next.num < M4.next.num) = True := eq_true (by rw [Pos.num_succ] at hn; omega)
  have e1 : M1.get M.next = some (.cells [.int 3 0, .int 3 0] false) := b1.get _ _ id (by simp only [go_sem])
  have ne := hw1.ne e1
  have e4 : M4.get M.next = some (.cells [.int 3 0, .int 3 0] false) := b4.get _ _ id e1
  simp only [go_sem, VlA, hq, ne, e4]
  have n1 := (b0.trans b1).next
  have bp : But (fun p => p = M1.next ∨ p = M.next) M4 (((M4.put M1.next (.cells [.int 3 0, .int 3 0] false)).put M1.next (.cells [.int 3 o.slots[j].k, .int 3 o.slots[j].n] false)).put M.next (.cells [.int 3 o.slots[j].k, .int 3 o.slots[j].n] false)) :=
    ((But.put (p := M1.next) _ (.inl rfl) _).trans (But.put (p := M1.next) _ (.inl rfl) _)).trans (But.put (p := M.next) _ (.inr rfl) _)
  have bb := But.fresh (S := fun _ => False) hw (((((b0.trans b1).trans (But_reserve M1 _)).trans b4).any _).trans (bp.mono (S' := fun p => False ∨ M.next.num ≤ p.num) (by rintro p (rfl | rfl); exact .inr n1; exact .inr (Nat.le_refl _))))
  first | exact bb | exact ⟨rfl, bb⟩
theorem reg_spec (T : SkT tbl) {M : Mem} {sp : Pos} {P : Pos → Prop} {co : Int} {cs : List Fr} {f : Fr} {G : Hp} {o : Ob} (h : Good G co cs f o) (hS : StackIs M sp P co (cs ++ [f]) G) {a : Int} {j : Nat} (hj : j < o.slots.length) (ha : 0 ≤ a) (hb : f.base + (1 + a) = (j : Int)) :
    CallW tbl 22 (.cons (.ptr sp 0) (.cons (.int 3 a) .nil)) M fun r M' => r = .ret (VlA o.slots[j]) ∧ But (fun _ => False) M M' := by
  refine CallW.wf fun hw => ?_
  refine CallW.intro T.h22 rfl (fr := .nod (.val .leaf (.ptr sp 0) .leaf) (.val .leaf (.int 3 a) .leaf)) rfl ?_
  have g : decide (a < 0) = false := by simp; omega
  simp only [go_sem, cf22, g]
  have b0 := But.new (S := fun _ => False) hw (.cells [.int 3 0, .int 3 0] false)
  refine (height_spec T h (hS.quiet b0)).use ?_
  rintro r M1 hw1 ⟨rfl, b1⟩
  have h1 := h.len; have h2 := h.low
  have g2 : decide ((o.slots.length : Int) - f.base - 1 ≤ a) = false := by simp; omega
  have e2 : IntKind.i64.wrap (1 + a) = 1 + a := wrap64 (by omega) (by omega)
  simp only [go_sem, g2, e2]
  refine (slot_spec T h (hS.quiet (b0.trans b1)) hj hb).use ?_
  rintro r M2 hw2 ⟨rfl, b2⟩
  have e4 : M2.get M.next = some (.cells [.int 3 0, .int 3 0] false) := (b1.trans b2).get _ _ id (by simp only [go_sem])
  simp only [go_sem, VlA, e4]
  have bp : But (fun p => p = M.next) M2 (M2.put M.next (.cells [.int 3 o.slots[j].k, .int 3 o.slots[j].n] false)) := But.put (S := fun p => p = M.next) (p := M.next) _ rfl _
  have bb := But.fresh (S := fun _ => False) hw ((((b0.trans b1).trans b2).any _).trans (bp.mono (S' := fun p => False ∨ M.next.num ≤ p.num) (by rintro p rfl; exact .inr (Nat.le_refl _))))
  first | exact bb | exact ⟨rfl, bb⟩
end Go.Proofs.Ythpnhdopheofcaa
end
section
namespace Go.Proofs.Ythpnhdopheofcaa
open Go.Dx
variable {tbl : Nat → Option CFunc}
theorem StackIs.heap {M M' : Mem} {own : Own} {Z : SkY} {P : Pos → Prop} {co : Int} {calls : List Fr} {G' : Hp} (hP : ∀ p, P p → own p = none ∧ p.num < M.next.num) (hB : SkB M own Z co calls) (hH : HeapIs M' Z.hp (fun p => P p ∨ own p ≠ none) G') (hb : But (fun p => ¬ (P p ∨ own p ≠ none)) M M') :
    StackIs M' Z.sp P co calls G' ∧ But (fun p => ¬ P p) M M' :=
  ⟨⟨own, Z, rfl, fun p hp => ⟨(hP p hp).1, Nat.lt_of_lt_of_le (hP p hp).2 hb.next⟩, hB.keep (hb.mono fun p hn => by
    cases ho : own p with
    | none => rfl
    | some s => exact absurd (.inr (by rw [ho]; simp)) hn), hH⟩, hb.mono fun p hn hp => hn (.inl hp)⟩
theorem spush_ok (T : SkT tbl) {M : Mem} {sp : Pos} {P : Pos → Prop} {co : Int} {cs : List Fr} {f : Fr} {G : Hp} {o : Ob} {v : Vl} (h : Good G co cs f o) (hS : StackIs M sp P co (cs ++ [f]) G) (hh : (o.slots.length : Int) - f.base - 1 < 250) (hv : thereV G v = true) :
    CallW tbl 15 (.cons (.ptr sp 0) (.cons (VlA v) .nil)) M fun r M' => r = .ret (.int 3 0) ∧ StackIs M' sp P co (cs ++ [f]) { G with objs := upd G.objs co (some { o with slots := o.slots ++ [v] }) } ∧ But (fun p => ¬ P p) M M' ∧ ∀ hp, HpOf M sp hp → HpOf M' sp hp := by
  refine CallW.wf fun hw => ?_
  obtain ⟨vk, vn⟩ := v
  refine CallW.intro T.h15 rfl (fr := .nod (.val .leaf (.ptr sp 0) .leaf) (.val .leaf (VlA ⟨vk, vn⟩) .leaf)) rfl ?_
  simp only [go_sem, cf15, VlA]
  have b0 := But.new (S := fun _ => False) hw (.cells [.int 3 vk, .int 3 vn] false)
  refine (h.state T (hS.quiet b0)).use ?_
  rintro r M1 hw1 ⟨rfl, b1⟩
  simp only [go_sem]
  refine (height_spec T h (hS.quiet (b0.trans b1))).use ?_
  rintro r M2 hw2 ⟨rfl, b2⟩
  have g : decide (250 ≤ (o.slots.length : Int) - f.base - 1) = false := by simp; omega
  have hS2 := hS.quiet ((b0.trans b1).trans b2)
  simp only [go_sem, g]
  refine (n_spec T.h69 hS2).use ?_
  rintro r M3 hw3 ⟨rfl, rfl⟩
  obtain ⟨own, Z, rfl, hP, hB, hH⟩ := hS2
  have e1 : M3.get M.next = some (.cells [.int 3 vk, .int 3 vn] false) := (b1.trans b2).get _ _ id (by simp only [go_sem])
  simp only [go_sem, hB.spc, e1]
  refine (push_ok T.h68 T.h75 T.h77 T.h81 T.h85 T.h115 T.h117 T.h143 (v := ⟨vk, vn⟩) hH h.obj (by rw [h.kind]; decide) hv (by have := h.len; simp only [most]; omega)).use ?_
  rintro r M4 hw4 ⟨rfl, hH4, b4⟩
  simp only [go_sem]
  obtain ⟨s1, s2⟩ := StackIs.heap hP hB hH4 b4
  exact ⟨s1, (((b0.trans b1).trans b2).any _).trans s2, fun hp0 h0 => by
    have e := h0.same ((b0.trans b1).trans b2) hB.spc
    subst e
    exact ⟨_, _, b4.get _ _ (fun e => e (.inr (by rw [hB.spo]; simp))) hB.spc⟩⟩
end Go.Proofs.Ythpnhdopheofcaa
end
section
namespace Go.Proofs.Ythpnhdopheofcaa
open Go.Dx
variable {tbl : Nat → Option CFunc}
theorem over_spec (T : SkT tbl) {M : Mem} {sp : Pos} {P : Pos → Prop} {co : Int} {calls : List Fr} {G : Hp} {o : Ob} (hS : StackIs M sp P co calls G) (ho : G.objs co = some o) (hl : o.slots.length ≤ 2 ^ 30) {sb mb : Pos} {m : Int} {b1 b2 : Bool} (hs : M.get sb = some (.cells [.ptr sp 0] b1)) (hm : M.get mb = some (.cells [.int 3 m] b2)) :
    CallW tbl 116 (.cons (.ptr sb 0) (.cons (.ptr mb 0) .nil)) M fun r M' => r = .ret (.bool (decide (m < o.slots.length))) ∧ But (fun _ => False) M M' := by
  refine CallW.intro T.h116 rfl (fr := .nod (.val .leaf (.ptr sb 0) .leaf) (.val .leaf (.ptr mb 0) .leaf)) rfl ?_
  simp only [go_sem, cf116, hs]
  refine (slots_spec T.h25 T.h69 T.h72 T.h75 T.h76 hS ho (by simp only [most]; omega)).use ?_
  rintro r M1 hw1 ⟨rfl, b⟩
  have hm1 := b.get _ _ id hm
  simp only [go_sem, hm1, hm]
  first | exact b | exact ⟨rfl, b⟩
end Go.Proofs.Ythpnhdopheofcaa
end
section
namespace Go.Proofs.Ythpnhdopheofcaa
open Go.Dx
variable {tbl : Nat → Option CFunc}
theorem StackIs.wide {M M' : Mem} {sp : Pos} {P : Pos → Prop} {co : Int} {calls : List Fr} {G : Hp} (h : StackIs M sp P co calls G) (hb : But (fun _ => False) M M') {q : Pos} (k1 : M.next.num ≤ q.num) (k2 : q.num < M'.next.num) : StackIs M' sp (fun p => P p ∨ p = q) co calls G := by
  obtain ⟨own, Z, h1, h2, h3, h4⟩ := h
  have hno : own q = none := by
    cases ho : own q with
    | none => rfl
    | some t => have := h3.inn q (by rw [ho]; simp); omega
  refine ⟨own, Z, h1, ?_, h3.keep (hb.any _), (h4.wide hb k1 k2).less ?_⟩
  · rintro p (hp | rfl)
    · exact ⟨(h2 p hp).1, Nat.lt_of_lt_of_le (h2 p hp).2 hb.next⟩
    · exact ⟨hno, k2⟩
  · rintro p ((hp | rfl) | hp)
    · exact .inl (.inl hp)
    · exact .inr rfl
    · exact .inl (.inr hp)
theorem StackIs.more {M : Mem} {sp : Pos} {P : Pos → Prop} {co : Int} {calls : List Fr} {G : Hp} (h : StackIs M sp P co calls G) (hw : M.wf) (b : MB) : StackIs (M.new b) sp (fun p => P p ∨ p = M.next) co calls G :=
  h.wide (But.new hw b) (Nat.le_refl _) (by show M.next.num < M.next.succ.num; rw [Pos.num_succ]; omega)
theorem StackIs.less {M : Mem} {sp : Pos} {P Q : Pos → Prop} {co : Int} {calls : List Fr} {G : Hp} (h : StackIs M sp P co calls G) (hq : ∀ p, Q p → P p) : StackIs M sp Q co calls G := by
  obtain ⟨own, Z, h1, h2, h3, h4⟩ := h
  exact ⟨own, Z, h1, fun p hp => h2 p (hq p hp), h3, h4.less fun p hp => hp.elim (fun e => .inl (hq p e)) .inr⟩
def fV : Vl := ⟨7, 1⟩
def cnt : List Vl → Int
  | [] => 0
  | v :: l => (if v = fV then 1 else 0) + cnt l
theorem cnt_nonneg (l : List Vl) : 0 ≤ cnt l := by
  induction l with
  | nil => exact Int.le_refl _
  | cons v l ih => simp only [cnt]; split <;> omega
theorem cnt_app (l r : List Vl) : cnt (l ++ r) = cnt l + cnt r := by
  induction l with
  | nil => simp [cnt]
  | cons v l ih => simp only [List.cons_append, cnt, ih]; omega
structure SW (G : Hp) (c : Int) (s : List Vl) : Prop where
  o1 : ∃ o, G.objs 1 = some o ∧ o.kind = 7 ∧ o.count = c
  o2 : ∃ o, G.objs 2 = some o ∧ o.kind = 8 ∧ o.slots = s
  buf : G.buffer = [] ∨ G.buffer = [1]
  ok : ∀ v ∈ s, v = fV ∨ v.k < 5
  more : cnt s < c
  most : c < 2 ^ 61
  flat : ∀ o, G.objs 1 = some o → o.slots = []
theorem refV_f : refV fV = true := by decide
theorem refV_no {v : Vl} (h : v.k < 5) : refV v = false := by
  simp only [refV, Bool.and_eq_false_iff, decide_eq_false_iff_not]
  exact .inl (by omega)
theorem SW.pop {G : Hp} {c : Int} {s : List Vl} {v : Vl} (hW : SW G c (s ++ [v])) {o : Ob} (ho : G.objs 2 = some o) : SW { G with objs := upd G.objs 2 (some { o with slots := s }) } c s := by
  obtain ⟨o', e1, e2, e3⟩ := hW.o2
  rw [ho] at e1
  cases e1
  obtain ⟨p, e4⟩ := hW.o1
  have h1 := cnt_app s [v]
  have h3 := cnt_nonneg [v]
  have h5 := hW.more
  exact ⟨⟨p, by simp [upd, e4.1], e4.2⟩, ⟨{ o with slots := s }, by simp [upd, fV], e2, rfl⟩, hW.buf, fun v hv => hW.ok v (List.mem_append_left _ hv), by omega, hW.most, fun x hx => hW.flat x (by simpa [upd] using hx)⟩
theorem SW.push {G : Hp} {c : Int} {s : List Vl} {v : Vl} (hW : SW G c s) {o : Ob} (ho : G.objs 2 = some o) (hv : v = fV ∨ v.k < 5) (hc : cnt (s ++ [v]) < c) : SW { G with objs := upd G.objs 2 (some { o with slots := o.slots ++ [v] }) } c (s ++ [v]) := by
  obtain ⟨o', e1, e2, e3⟩ := hW.o2
  rw [ho] at e1
  cases e1
  obtain ⟨p, e4⟩ := hW.o1
  exact ⟨⟨p, by simp [upd, e4.1], e4.2⟩, ⟨{ o with slots := o.slots ++ [v] }, by simp [upd, fV], e2, by rw [e3]⟩, hW.buf, fun w hw => (List.mem_append.1 hw).elim (hW.ok w) fun h => by rw [List.mem_singleton.1 h]; exact hv, hc, hW.most, fun x hx => hW.flat x (by simpa [upd] using hx)⟩
end Go.Proofs.Ythpnhdopheofcaa
end
section
namespace Go.Proofs.Ythpnhdopheofcaa
open Go.Dx
variable {tbl : Nat → Option CFunc}
theorem snoc {α : Type} {l : List α} {n : Nat} (h : n < l.length) : ∃ v, l = l.take (l.length - 1) ++ [v] := by
  have h1 : l.length - 1 < l.length := by omega
  refine ⟨l[l.length - 1], ?_⟩
  have := List.take_succ_eq_append_getElem h1
  rw [← this]
  have e : l.length - 1 + 1 = l.length := by omega
  rw [e, List.take_length]
end Go.Proofs.Ythpnhdopheofcaa
end
section
namespace Go.Proofs.Ythpnhdopheofcaa
open Go.Dx
variable {tbl : Nat → Option CFunc}
theorem StackIs.step {M M' : Mem} {own own' : Own} {t : Tag} {Z Z' : SkY} {P : Pos → Prop} {co : Int} {calls' : List Fr} {G : Hp} (hP : ∀ p, P p → own p = none ∧ p.num < M.next.num) (hH : HeapIs M Z.hp (fun p => P p ∨ own p ≠ none) G) (u : OwnUp t M M' own own') (hb : But (fun p => own p ≠ none) M M')
    (hB : SkB M' own' Z' co calls') (hz : Z'.hp = Z.hp) : StackIs M' Z'.sp P co calls' G ∧ But (fun p => ¬ P p) M M' := by
  refine ⟨⟨own', Z', rfl, fun p hp => ⟨u.none_ (hP p hp).1 (hP p hp).2, Nat.lt_of_lt_of_le (hP p hp).2 hb.next⟩, hB, ?_⟩, hb.mono fun p h1 h2 => h1 (hP p h2).1⟩
  obtain ⟨own0, Y, k1, k2, k3⟩ := hH
  refine ⟨own0, Y, by rw [k1, hz], ?_, k3.keep (hb.mono fun p hp => (k2 p (.inr hp)).1)⟩
  have old : ∀ p, (P p ∨ own p ≠ none) → own0 p = none ∧ p.num < M'.next.num := fun p hp => ⟨(k2 p hp).1, Nat.lt_of_lt_of_le (k2 p hp).2 hb.next⟩
  rintro p (hp | hp)
  · exact old p (.inl hp)
  · rcases u p with e | ⟨e1, e2, e3, e4⟩
    · rw [e] at hp; exact old p (.inr hp)
    · refine ⟨?_, e4⟩
      cases ho : own0 p with
      | none => rfl
      | some s => have := k3.inn p (by rw [ho]; simp); omega
theorem frL_set (cs : List Fr) (f f' : Fr) (tv : Nat → AV) (v : AV) : (FrL (cs ++ [f]) tv).set cs.length (FrR f' v) = FrL (cs ++ [f']) (fun i => if i = cs.length then v else tv i) := by
  apply List.ext_getElem?
  intro i
  by_cases hi : i < cs.length + 1
  · have h1 : i < (cs ++ [f]).length := by simpa using hi
    have h2 : i < (cs ++ [f']).length := by simpa using hi
    rw [frL_at _ _ h2, List.getElem?_set]
    by_cases e : cs.length = i
    · subst e
      simp [frL_len]
    · rw [if_neg e, frL_at _ _ h1]
      have h3 : i < cs.length := by omega
      simp [List.getElem_append_left h3, show ¬ (i = cs.length) from fun x => e x.symm]
  · rw [List.getElem?_eq_none (by simp [frL_len]; omega), List.getElem?_eq_none (by simp [frL_len]; omega)]
theorem frL_snoc (cs : List Fr) (f : Fr) (tv : Nat → AV) (v : AV) : FrL cs tv ++ [FrR f v] = FrL (cs ++ [f]) (fun i => if i = cs.length then v else tv i) := by
  apply List.ext_getElem?
  intro i
  by_cases hi : i < cs.length
  · rw [List.getElem?_append_left (by rw [frL_len]; exact hi), frL_at _ _ hi, frL_at _ _ (by simp; omega)]
    simp [List.getElem_append_left hi, show ¬ (i = cs.length) by omega]
  · by_cases e : i = cs.length
    · subst e
      rw [List.getElem?_append_right (by rw [frL_len]; omega), frL_len, frL_at _ _ (by simp)]
      simp
    · rw [List.getElem?_eq_none (by simp [frL_len]; omega), List.getElem?_eq_none (by simp [frL_len]; omega)]
theorem frL_take (cs : List Fr) (f : Fr) (tv : Nat → AV) : (FrL (cs ++ [f]) tv).take cs.length = FrL cs tv := by
  apply List.ext_getElem?
  intro i
  by_cases hi : i < cs.length
  · rw [List.getElem?_take_of_lt hi, frL_at _ _ (by simp; omega), frL_at _ _ hi]
    simp [List.getElem_append_left hi]
  · rw [List.getElem?_eq_none (by simp [frL_len]; omega), List.getElem?_eq_none (by simp [frL_len]; omega)]
theorem SkB.sub {M : Mem} {own : Own} {Z : SkY} {co : Int} {calls : List Fr} (h : SkB M own Z co calls) {p : Pos} {t : Tag} (ho : own p = some t) (ht : t ≠ (20, 0)) : p ≠ Z.sp := fun e => by rw [e, h.spo] at ho; cases ho; exact ht rfl
theorem SkB.row {M M1 : Mem} {own own1 : Own} {Z : SkY} {co : Int} {cs : List Fr} {f f' : Fr} (h : SkB M own Z co (cs ++ [f])) (u : OwnUp (22, (cs.length : Int)) M M1 own own1) (hb : But (fun p => own p = some (22, (cs.length : Int))) M M1)
    {v : AV} (hs : SlO M1 own1 (22, (cs.length : Int)) v 2 (PairL f'.tries)) {q : Pos} {b : MB} (hq : own1 q = some (21, 0)) (hc : SlO (M1.put q b) own1 (21, 0) Z.cv 3 (FrL (cs ++ [f']) (fun i => if i = cs.length then v else Z.tv i))) :
    SkB (M1.put q b) own1 { Z with tv := fun i => if i = cs.length then v else Z.tv i } co (cs ++ [f']) := by
  have kp : ∀ p c t, own1 p = some t → t ≠ (21, 0) → M1.get p = some c → (M1.put q b).get p = some c := fun p c t ho ht hp => by
    show (if p = q then _ else M1.get p) = _
    rw [if_neg fun e => by rw [e, hq] at ho; cases ho; exact ht rfl]
    exact hp
  have k0 : ∀ p c t, own p = some t → t ≠ (22, (cs.length : Int)) → M.get p = some c → M1.get p = some c := fun p c t ho ht hp => hb.get p c (fun e => ht (by rw [ho] at e; exact Option.some.inj e)) hp
  refine ⟨u.in_ h.inn hb.next, u.old h.spo, kp _ _ _ (u.old h.spo) (by simp) (k0 _ _ _ h.spo (by simp) h.spc), hc, fun i hi => ?_⟩
  by_cases e : i = cs.length
  · subst e
    simp only [if_true]
    have e2 : (cs ++ [f'])[cs.length]'hi = f' := by simp
    rw [e2]
    exact hs.keep (fun p c ho hp => kp p c _ ho (by simp) hp) fun _ h => h
  · have hi' : i < cs.length := by simp at hi; omega
    simp only [if_neg e]
    have e2 : (cs ++ [f'])[i]'hi = cs[i] := by rw [List.getElem_append_left hi']
    have e3 : (cs ++ [f])[i]'(by simp; omega) = cs[i] := by rw [List.getElem_append_left hi']
    rw [e2]
    have := h.try_ i (by simp; omega)
    rw [e3] at this
    refine this.keep (fun p c ho hp => ?_) fun p ho => u.old ho
    exact kp p c _ (u.old ho) (by simp) (k0 p c _ ho (by simp; omega) hp)
theorem SkB.calls {M M1 : Mem} {own own1 : Own} {Z : SkY} {co : Int} {calls calls' : List Fr} (h : SkB M own Z co calls) (u : OwnUp (21, 0) M M1 own own1) (hb : But (fun p => own p = some (21, 0)) M M1) {v : AV} {tv : Nat → AV}
    (hs : SlO M1 own1 (21, 0) v 3 (FrL calls' tv)) (ht : ∀ i (hi : i < calls'.length), (∃ (k : i < calls.length), tv i = Z.tv i ∧ calls'[i] = calls[i]) ∨ (tv i = .nilslice ∧ calls'[i].tries = [])) {b : MB} (hbb : b = .cells [.ptr Z.hp 0, .int 3 8, .int 3 co, v] false) :
    SkB (M1.put Z.sp b) own1 { Z with cv := v, tv := tv } co calls' := by
  have hq := u.old h.spo
  have kp : ∀ p c t, own1 p = some t → t ≠ (20, 0) → M1.get p = some c → (M1.put Z.sp b).get p = some c := fun p c t ho ht hp => by
    show (if p = Z.sp then _ else M1.get p) = _
    rw [if_neg fun e => by rw [e, hq] at ho; cases ho; exact ht rfl]
    exact hp
  refine ⟨u.in_ h.inn hb.next, hq, by subst hbb; simp [Mem.put], hs.keep (fun p c ho hp => kp p c _ ho (by simp) hp) fun _ h => h, fun i hi => ?_⟩
  rcases ht i hi with ⟨k, e1, e2⟩ | ⟨e1, e2⟩
  · show SlO _ _ _ (tv i) _ _
    rw [e1, e2]
    refine (h.try_ i k).keep (fun p c ho hp => kp p c _ (u.old ho) (by simp) (hb.get p c (fun e => by rw [ho] at e; simp at e) hp)) fun p ho => u.old ho
  · show SlO _ _ _ (tv i) _ _
    rw [e1, e2]
    exact SlO.nil _ _ _ _
end Go.Proofs.Ythpnhdopheofcaa
end
section
namespace Go.Proofs.Ythpnhdopheofcaa
open Go.Dx
variable {tbl : Nat → Option CFunc}
theorem slO_pushFrom {M : Mem} {own : Own} {t : Tag} {v : AV} {size : Nat} {L X : List (List AV)} {n c : Nat} {x : List AV} {q : Pos} (h : SlO M own t v size L) (hw : M.wf) (hi : own.in M) (hq : M.get q = some (.cells x false)) (hn : n = X.length) (hxx : x = X.flatten) (hx : ∀ x ∈ X, x.length = size ∧ x.all isCell = true) (hs0 : 0 < size) (hm : L.length + X.length ≤ most) :
    ∃ v' M' own', appO M size v (.slice q 0 n c) = some (v', M') ∧ SlO M' own' t v' size (L ++ X) ∧ OwnUp t M M' own own' ∧ But (fun p => own p = some t) M M' ∧ M'.wf := by
  subst hn hxx
  obtain ⟨v', M', own', h1, h2, h3, h4, h5⟩ := h.append_ hw hi hx hs0 hm
  refine ⟨v', M', own', ?_, h2, h3, h4, h5⟩
  have hsrc : srcM M size X.length (.slice q 0 X.length c) = some X.flatten :=
    (SlIs.made (X := X) (op := false) hq rfl (fun y hy => (hx y hy).1) rfl).src rfl (by simp)
  simp only [appO, lenOf_slice, Option.bind_some, hsrc]
  exact h1
theorem try_spec (T : SkT tbl) {M : Mem} {sp : Pos} {P : Pos → Prop} {co : Int} {cs : List Fr} {f : Fr} {G : Hp} {o : Ob} (h : Good G co cs f o) (hS : StackIs M sp P co (cs ++ [f]) G) {tg : Int} (ht : 0 ≤ tg) (hn : f.tries.length < 2 ^ 30) :
    CallW tbl 17 (.cons (.ptr sp 0) (.cons (.int 3 tg) .nil)) M fun r M' => r = .ret (.int 3 0) ∧ StackIs M' sp P co (cs ++ [{ f with tries := f.tries ++ [((o.slots.length : Int) - f.base - 1, tg)] }]) G ∧ But (fun p => ¬ P p) M M' ∧ ∀ hp, HpOf M sp hp → HpOf M' sp hp := by
  refine CallW.wf fun hw => ?_
  refine CallW.intro T.h17 rfl (fr := .nod (.val .leaf (.ptr sp 0) .leaf) (.val .leaf (.int 3 tg) .leaf)) rfl ?_
  simp only [go_sem, cf17]
  refine (h.state T hS).use ?_
  rintro r M1 hw1 ⟨rfl, b1⟩
  have g : decide (tg < 0) = false := by simp; omega
  simp only [go_sem, g]
  have hS1 := hS.quiet b1
  obtain ⟨own, Z, rfl, hP, hB, hH⟩ := hS1
  obtain ⟨p, po, pn, a1, htop, c0, c1, c2, hown⟩ := Good.top T hB h.calls
  refine htop.use ?_
  rintro r M2 hw2 ⟨rfl, rfl⟩
  simp only [go_sem]
  refine (height_spec T h ((hS.quiet b1).quiet (But_reserve M2 _))).use ?_
  rintro r M3 hw3 ⟨rfl, b3⟩
  have b3' := (But_reserve M2 (fun _ => False)).trans b3
  obtain ⟨q, po2, pn2, a2, htop2, d0, d1, d2, hown2⟩ := Good.top T (hB.keep (b3'.any _)) h.calls
  rw [a1] at a2; cases a2
  have hq : (M2.next.num < M3.next.num) = True := eq_true (by have := b3.next; have e : M2.next.succ.num ≤ M3.next.num := this; rw [Pos.num_succ] at e; omega)
  generalize hht : (o.slots.length : Int) - f.base - 1 = hk at *
  have b4 : But (fun _ => False) M2 (M3.put M2.next (.cells [.int 3 hk, .int 3 tg] false)) := But.fresh hw2 ((b3'.any _).trans (But.put (p := M2.next) _ (.inr (Nat.le_refl _)) _))
  have hw4 : (M3.put M2.next (.cells [.int 3 hk, .int 3 tg] false)).wf := fun p c hp => by
    have hp' : (if p = M2.next then some (MB.cells [.int 3 hk, .int 3 tg] false) else M3.get p) = some c := hp
    by_cases e : p = M2.next
    · subst e; exact of_eq_true hq
    · rw [if_neg e] at hp'; exact hw3 p c hp'
  have hB4 := hB.keep (b4.any _)
  have hH4 := hH.quiet b4
  have hx4 : (M3.put M2.next (.cells [.int 3 hk, .int 3 tg] false)).get M2.next = some (.cells [.int 3 hk, .int 3 tg] false) := by simp [Mem.put]
  have htr := hB4.try_ cs.length (by simp)
  have e2 : (cs ++ [f])[cs.length]'(by simp) = f := by simp
  rw [e2] at htr
  obtain ⟨v5, M5, own5, p5, s5, u5, b5, w5⟩ := slO_pushFrom htr hw4 hB4.inn hx4 (n := 1) (c := 1) (X := [[.int 3 hk, .int 3 tg]]) rfl rfl (by simp [isCell]) (by omega) (by simp only [PairL, List.length_map, List.length_cons, List.length_nil, most]; omega)
  have hc5 := s5.cell
  have k5 : ∀ p c t, own p = some t → t ≠ (22, (cs.length : Int)) → (M3.put M2.next (.cells [.int 3 hk, .int 3 tg] false)).get p = some c → M5.get p = some c := fun p c t ho ht hp => b5.get p c (fun e => ht (by rw [ho] at e; exact Option.some.inj e)) hp
  have hcal5 : SlO M5 own5 (21, 0) Z.cv 3 (FrL (cs ++ [f]) Z.tv) := hB4.cal.keep (fun p c ho hp => k5 p c _ ho (by simp) hp) fun p ho => u5.old ho
  obtain ⟨b, st, hq5, _, hc6⟩ := hcal5.setCell (i := cs.length) (j := 2) (x := v5) (by rw [frL_len]; simp) (by omega) hc5 a1
  rw [Mem.store_eq] at st
  have hrow : ((FrL (cs ++ [f]) Z.tv)[cs.length]'(by rw [frL_len]; simp)).set 2 v5 = FrR { f with tries := f.tries ++ [(hk, tg)] } v5 := by
    have e : (FrL (cs ++ [f]) Z.tv)[cs.length]'(by rw [frL_len]; simp) = FrR f (Z.tv cs.length) := by
      have := frL_at (cs ++ [f]) Z.tv (i := cs.length) (by simp)
      rw [List.getElem?_eq_getElem (by rw [frL_len]; simp)] at this
      simpa using this
    rw [e]; rfl
  rw [hrow, frL_set] at hc6
  have hBn := hB4.row (f' := { f with tries := f.tries ++ [(hk, tg)] }) u5 b5 (by simpa [PairL] using s5) hq5 hc6
  simp only [go_sem, d2, c2, hq, p5, hc5, st]
  obtain ⟨r1, r2⟩ := StackIs.step (M' := M5.put p b) (own' := own5) (fun p hp => ⟨(hP p hp).1, Nat.lt_of_lt_of_le (hP p hp).2 b4.next⟩) hH4 u5 ((b5.mono (fun p e => by rw [e]; simp)).trans (But.put (p := p) _ (by rw [hown]; simp) _)) hBn rfl
  exact ⟨r1, ((b1.trans b4).any _).trans r2, fun hp0 h0 => by
    have e := h0.same (b1.trans b4) hB4.spc
    subst e
    exact ⟨_, _, hBn.spc⟩⟩
end Go.Proofs.Ythpnhdopheofcaa
end
section
namespace Go.Proofs.Ythpnhdopheofcaa
open Go.Dx
variable {tbl : Nat → Option CFunc}
def plain (v : Vl) : Prop := v.k < 5 ∧ v.k ≠ 0 ∧ mayV v = true
theorem plain.there {v : Vl} (h : plain v) (G : Hp) : thereV G v = true := by
  obtain ⟨h1, h2, h3⟩ := h
  have e : (v.k == 0) = false := by simpa using h2
  simp only [thereV, h3, refV_no h1, e]; rfl
theorem plain.ne {v : Vl} (h : plain v) : v ≠ fV := fun e => by rw [e] at h; exact absurd h.1 (by decide)
theorem SkB.pop {M : Mem} {own : Own} {Z : SkY} {co : Int} {cs : List Fr} {f : Fr} (h : SkB M own Z co (cs ++ [f])) :
    ∃ v', sliceM M 3 none (some cs.length) none Z.cv = some v' ∧ isCell v' = true ∧ SkB (M.put Z.sp (.cells [.ptr Z.hp 0, .int 3 8, .int 3 co, v'] false)) own { Z with cv := v' } co cs := by
  obtain ⟨v', p', s'⟩ := h.cal.take_ (by omega) (k := cs.length) (by rw [frL_len]; simp)
  rw [frL_take] at s'
  exact ⟨v', p', s'.cell, h.calls (tv := Z.tv) (OwnUp.refl _ _ _ _) (But.refl _ _) s' (fun i hi => .inl ⟨by simp; omega, rfl, by rw [List.getElem_append_left hi]⟩) rfl⟩
theorem SkB.tries {M : Mem} {own : Own} {Z : SkY} {co : Int} {cs : List Fr} {f : Fr} (h : SkB M own Z co (cs ++ [f])) : SlO M own (22, (cs.length : Int)) (Z.tv cs.length) 2 (PairL f.tries) := by
  have htr := h.try_ cs.length (by simp)
  have e2 : (cs ++ [f])[cs.length]'(by simp) = f := by simp
  rw [e2] at htr
  exact htr
theorem frL_last (cs : List Fr) (f : Fr) (tv : Nat → AV) : (FrL (cs ++ [f]) tv)[cs.length]'(by rw [frL_len]; simp) = FrR f (tv cs.length) := by
  have := frL_at (cs ++ [f]) tv (i := cs.length) (by simp)
  rw [List.getElem?_eq_getElem (by rw [frL_len]; simp)] at this
  simpa using this
theorem SkB.setPc {M : Mem} {own : Own} {Z : SkY} {co : Int} {cs : List Fr} {f : Fr} (h : SkB M own Z co (cs ++ [f])) {p : Pos} {po pn : Nat} (a1 : slAt Z.cv = some (p, po, pn)) (tg : Int) :
    ∃ b, M.storeIn p (M.get p) (po + cs.length * 3 + 1) [.int 3 tg] = some (M.put p b) ∧ ∃ tv', SkB (M.put p b) own { Z with tv := tv' } co (cs ++ [{ f with pc := tg }]) := by
  obtain ⟨b, st, hq5, _, hc6⟩ := h.cal.setCell (i := cs.length) (j := 1) (x := .int 3 tg) (by rw [frL_len]; simp) (by omega) rfl a1
  rw [Mem.store_eq] at st
  have hrow : (FrR f (Z.tv cs.length)).set 1 (.int 3 tg) = FrR { f with pc := tg } (Z.tv cs.length) := rfl
  rw [frL_last, hrow, frL_set] at hc6
  exact ⟨b, st, _, h.row (f' := { f with pc := tg }) (OwnUp.refl _ _ _ _) (But.refl _ _) h.tries hq5 hc6⟩
theorem SkB.setTries {M : Mem} {own : Own} {Z : SkY} {co : Int} {cs : List Fr} {f : Fr} (h : SkB M own Z co (cs ++ [f])) {p : Pos} {po pn : Nat} (a1 : slAt Z.cv = some (p, po, pn)) {v : AV} {ts : List (Int × Int)} (hs : SlO M own (22, (cs.length : Int)) v 2 (PairL ts)) :
    ∃ b, M.storeIn p (M.get p) (po + cs.length * 3 + 2) [v] = some (M.put p b) ∧ ∃ tv', SkB (M.put p b) own { Z with tv := tv' } co (cs ++ [{ f with tries := ts }]) := by
  obtain ⟨b, st, hq5, _, hc6⟩ := h.cal.setCell (i := cs.length) (j := 2) (x := v) (by rw [frL_len]; simp) (by omega) hs.cell a1
  rw [Mem.store_eq] at st
  have hrow : (FrR f (Z.tv cs.length)).set 2 v = FrR { f with tries := ts } v := rfl
  rw [frL_last, hrow, frL_set] at hc6
  exact ⟨b, st, _, h.row (f' := { f with tries := ts }) (OwnUp.refl _ _ _ _) (But.refl _ _) hs hq5 hc6⟩
def spC (hp : Pos) (co : Int) (cv : AV) : Option MB := some (.cells [.ptr hp 0, .int 3 8, .int 3 co, cv] false)
theorem StackIs.cells {M : Mem} {sp : Pos} {P : Pos → Prop} {co : Int} {calls : List Fr} {G : Hp} (hS : StackIs M sp P co calls G) : ∃ hp cv, M.get sp = spC hp co cv := by
  obtain ⟨own, Z, rfl, h2, h3, h4⟩ := hS
  exact ⟨Z.hp, Z.cv, h3.spc⟩
theorem StackIs.open_ {M : Mem} {sp hp : Pos} {cv : AV} {P : Pos → Prop} {co : Int} {calls : List Fr} {G : Hp} (hS : StackIs M sp P co calls G) (hz : M.get sp = spC hp co cv) :
    ∃ own Z, Z.sp = sp ∧ Z.hp = hp ∧ Z.cv = cv ∧ (∀ p, P p → own p = none ∧ p.num < M.next.num) ∧ SkB M own Z co calls ∧ HeapIs M hp (fun p => P p ∨ own p ≠ none) G := by
  obtain ⟨own, Z, rfl, h2, h3, h4⟩ := hS
  have h1 := h3.spc
  rw [hz] at h1
  simp only [spC, Option.some.injEq, MB.cells.injEq, List.cons.injEq, AV.ptr.injEq] at h1
  obtain ⟨⟨⟨e1, _⟩, _, _, e2, _⟩, _⟩ := h1
  subst e1
  exact ⟨own, Z, rfl, rfl, e2.symm, h2, h3, h4⟩
end Go.Proofs.Ythpnhdopheofcaa
end
section
namespace Go.Proofs.Ythpnhdopheofcaa
open Go.Dx
variable {tbl : Nat → Option CFunc}
end Go.Proofs.Ythpnhdopheofcaa
end
section
namespace Go.Proofs.Ythpnhdopheofcaa
open Go.Dx
variable {tbl : Nat → Option CFunc}
def nilV : Vl := ⟨1, 0⟩
theorem nil_plain : plain nilV := ⟨by decide, by decide, by decide⟩
end Go.Proofs.Ythpnhdopheofcaa
end
section
namespace Go.Proofs.Ythpnhdopheofcaa
open Go.Dx
variable {tbl : Nat → Option CFunc}
end Go.Proofs.Ythpnhdopheofcaa
end
section
namespace Go.Proofs.Ythpnhdopheofcaa
open Go.Dx
variable {tbl : Nat → Option CFunc}
theorem make31' (M : Mem) : makeO M ((AV.int 3 0).cons ((AV.int 3 0).cons (AV.nilslice.cons AV.nil))) 3 1 1 = some (M.next, M.new (.cells [.int 3 0, .int 3 0, .nilslice] false)) := rfl
theorem SW.there {G : Hp} {c : Int} {s : List Vl} (hW : SW G c s) : thereV G fV = true := by
  obtain ⟨o', k1, k2, k3⟩ := hW.o1
  have e : G.objs fV.n = some o' := k1
  have e' : (o'.kind == fV.k) = true := by rw [k2]; decide
  simp only [thereV, e, e']; decide
theorem newStack {M : Mem} (hw : M.wf) {hp : Pos} {P P' : Pos → Prop} {G : Hp} (hH : HeapIs M hp P' G) (hPP : ∀ p, P p → P' p) :
    StackIs (((⟨M.next.succ, M.get⟩ : Mem).new (.cells [.int 3 0, .int 3 0, .nilslice] false)).put M.next (.cells [.ptr hp 0, .int 3 8, .int 3 2, .slice M.next.succ 0 1 1] false)) M.next P 2 [⟨0, 0, []⟩] G ∧
      But (fun _ => False) M (((⟨M.next.succ, M.get⟩ : Mem).new (.cells [.int 3 0, .int 3 0, .nilslice] false)).put M.next (.cells [.ptr hp 0, .int 3 8, .int 3 2, .slice M.next.succ 0 1 1] false)) := by
  have b2 : But (fun _ => False) (⟨M.next.succ, M.get⟩ : Mem) (((⟨M.next.succ, M.get⟩ : Mem).new (.cells [.int 3 0, .int 3 0, .nilslice] false)).put M.next (.cells [.ptr hp 0, .int 3 8, .int 3 2, .slice M.next.succ 0 1 1] false)) :=
    ⟨by show M.next.succ.num ≤ M.next.succ.succ.num; rw [Pos.num_succ (M.next.succ)]; omega, fun p b _ hp => by
      have h1 := hw p b hp
      have e1 : ¬ (p = M.next) := fun e => by rw [e] at h1; omega
      have e2 : ¬ (p = M.next.succ) := fun e => by rw [e, Pos.num_succ] at h1; omega
      show (if p = M.next then _ else if p = M.next.succ then _ else M.get p) = _
      rw [if_neg e1, if_neg e2]
      exact hp⟩
  have hlow := hH
  obtain ⟨_, _, _, hlow, _⟩ := hlow
  have hH1 := hH.wide (But_reserve M _) (q := M.next) (Nat.le_refl _) (by show M.next.num < M.next.succ.num; rw [Pos.num_succ]; omega)
  have hH2 := hH1.wide b2 (q := M.next.succ) (Nat.le_refl _) (by show M.next.succ.num < M.next.succ.succ.num; rw [Pos.num_succ (M.next.succ)]; omega)
  have hne : M.next ≠ M.next.succ := fun e => by have := congrArg Pos.num e; rw [Pos.num_succ] at this; omega
  refine ⟨⟨fun p => if p = M.next then some (20, 0) else if p = M.next.succ then some (21, 0) else none, ⟨M.next, hp, .slice M.next.succ 0 1 1, fun _ => .nilslice⟩, rfl, ?_, ⟨?_, ?_, ?_, ?_, ?_⟩, ?_⟩, (But_reserve M _).trans b2⟩
  · intro p hp
    have h1 := (hlow p (hPP p hp)).2
    have e1 : ¬ (p = M.next) := fun e => by rw [e] at h1; omega
    have e2 : ¬ (p = M.next.succ) := fun e => by rw [e, Pos.num_succ] at h1; omega
    refine ⟨by simp only [if_neg e1, if_neg e2], ?_⟩
    show p.num < M.next.succ.succ.num
    rw [Pos.num_succ, Pos.num_succ]; omega
  · intro p hp
    show p.num < M.next.succ.succ.num
    rw [Pos.num_succ, Pos.num_succ]
    by_cases e1 : p = M.next
    · rw [e1]; omega
    · by_cases e2 : p = M.next.succ
      · rw [e2, Pos.num_succ]; omega
      · simp only [if_neg e1, if_neg e2] at hp; exact absurd rfl hp
  · simp
  · simp [Mem.put]
  · refine ⟨fun x hx => by simp [FrL, FrR] at hx; subst hx; exact ⟨rfl, rfl⟩, .inr (.inr ⟨M.next.succ, [], [], false, by simp [hne.symm], by simp [Mem.put, Mem.new, hne.symm, FrL, FrR], ⟨rfl, rfl⟩, .inr ⟨1, rfl, by simp [FrL], by simp [FrL]⟩⟩)⟩
  · intro i hi
    have e : i = 0 := by simp at hi; exact hi
    subst e
    exact SlO.nil _ _ _ _
  · refine hH2.less ?_
    rintro p (hp | hp)
    · exact .inl (.inl (hPP p hp))
    · by_cases e1 : p = M.next
      · exact .inl (.inr e1)
      · by_cases e2 : p = M.next.succ
        · exact .inr e2
        · simp only [if_neg e1, if_neg e2] at hp; exact absurd rfl hp
end Go.Proofs.Ythpnhdopheofcaa
end
section
namespace Go.Proofs.Ythpnhdopheofcaa
open Go.Dx
variable {tbl : Nat → Option CFunc}
theorem SW.good {G : Hp} {c : Int} {s : List Vl} (hW : SW G c s) {cs : List Fr} {f : Fr} (hl : s.length ≤ 2 ^ 30) (h0 : 0 ≤ f.base) (hb : f.base + 1 ≤ s.length) (hc : cs.length < 2 ^ 30) : ∃ o, Good G 2 cs f o ∧ o.slots = s := by
  obtain ⟨o, e1, e2, e3⟩ := hW.o2
  exact ⟨o, ⟨e1, e2, by rw [e3]; exact hl, h0, by rw [e3]; exact hb, hc⟩, e3⟩
theorem hkeep (T : SkT tbl) {M : Mem} {sp hp : Pos} {cv : AV} {P : Pos → Prop} {calls : List Fr} {G : Hp} {c : Int} {s : List Vl} (hS : StackIs M sp P 2 calls G) (hz : M.get sp = spC hp 2 cv) (hW : SW G c s) (hc : 0 < c) (hc2 : c < 2 ^ 60) :
    CallW tbl 18 (.cons (.ptr hp 0) (.cons (VlA fV) .nil)) M fun r M' => r = .ret (.int 3 0) ∧ (∃ G', StackIs M' sp P 2 calls G' ∧ SW G' (c + 1) s) ∧ But (fun p => ¬ P p) M M' ∧ M'.get sp = spC hp 2 cv := by
  obtain ⟨own, Z, rfl, rfl, rfl, hP, hB, hH⟩ := hS.open_ hz
  obtain ⟨o, e1, e2, e3⟩ := hW.o1
  obtain ⟨o', e4, e5, e6⟩ := hW.o2
  refine (keep_yes T.h18 T.h71 T.h77 T.h81 T.h85 T.h115 T.h117 T.h143 (v := fV) hH refV_f e1 e2 (by omega) (by omega)).mono ?_
  rintro r M' ⟨rfl, hH', b⟩
  obtain ⟨s1, s2⟩ := StackIs.heap hP hB hH' b
  have hm := hW.more
  exact ⟨rfl, ⟨_, s1, ⟨{ o with count := o.count + 1 }, by simp [upd, fV], e2, by simp only [e3]⟩, ⟨o', by simp [upd, fV, e4], e5, e6⟩, hW.buf, hW.ok, by omega, by omega, fun x hx => by simp [upd, fV] at hx; subst hx; exact hW.flat o e1⟩, s2, b.get _ _ (fun e => e (.inr (by rw [hB.spo]; simp))) hz⟩
def numV (n : Int) : Vl := ⟨3, n⟩
theorem num_plain (n : Int) : plain (numV n) := ⟨(by show (3 : Int) < 5; decide), (by show (3 : Int) ≠ 0; decide), rfl⟩
theorem number_spec (h : tbl 16 = some cf16) {M : Mem} (n : Int) : CallW tbl 16 (.cons (.int 3 n) .nil) M fun r M' => r = .ret (VlA (numV n)) ∧ But (fun _ => False) M M' := by
  refine CallW.wf fun hw => ?_
  refine CallW.intro h rfl (fr := .nod (.val .leaf (.int 3 n) .leaf) .leaf) rfl ?_
  simp only [go_sem, cf16, VlA, numV]
  exact But.fill hw (.cells [.int 3 0, .int 3 0] false) (.cells [.int 3 3, .int 3 n] false)
end Go.Proofs.Ythpnhdopheofcaa
end
section
namespace Go.Proofs.Ythpnhdopheofcaa
open Go.Dx
variable {tbl : Nat → Option CFunc}
theorem co_spec (T : SkT tbl) {M : Mem} {sp : Pos} {P : Pos → Prop} {co : Int} {calls : List Fr} {G : Hp} (hS : StackIs M sp P co calls G) :
    CallW tbl 29 (.cons (.ptr sp 0) .nil) M fun r M' => r = .ret (VlA ⟨8, co⟩) ∧ But (fun _ => False) M M' := by
  refine CallW.wf fun hw => ?_
  refine CallW.intro T.h29 rfl (fr := .nod (.val .leaf (.ptr sp 0) .leaf) .leaf) rfl ?_
  obtain ⟨own, Z, rfl, hP, hB, hH⟩ := hS
  have hz := hB.spc
  have ne := hw.ne hz
  simp only [go_sem, cf29, hz, ne, VlA]
  have b1 := But.fill hw (.cells [.int 3 0, .int 3 0] false) (.cells [.int 3 8, .int 3 co] false)
  first | exact b1 | exact ⟨rfl, b1⟩
theorem null_spec (h : tbl 27 = some cf27) {M : Mem} : CallW tbl 27 .nil M fun r M' => r = .ret (VlA nilV) ∧ But (fun _ => False) M M' := by
  refine CallW.wf fun hw => ?_
  refine CallW.intro h rfl (fr := .leaf) rfl ?_
  simp only [go_sem, cf27, VlA, nilV]
  exact But.fill hw (.cells [.int 3 0, .int 3 0] false) (.cells [.int 3 1, .int 3 0] false)
end Go.Proofs.Ythpnhdopheofcaa
end
