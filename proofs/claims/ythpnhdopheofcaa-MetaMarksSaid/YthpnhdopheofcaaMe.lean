import Derived.Test.YthpnhdopheofcaaDxWk
import Derived.Test.YthpnhdopheofcaaTf
import Derived.Test.YthpnhdopheofcaaSt
import Derived.Test.YthpnhdopheofcaaFns
import Derived.Test.YthpnhdopheofcaaDxAsl
set_option linter.unusedSimpArgs false
set_option linter.unusedVariables false
section
namespace Go.Proofs.Ythpnhdopheofcaa
open Go.Dx
variable {tbl : Nat → Option CFunc}

structure MeT (tbl : Nat → Option CFunc) : Prop extends FnT tbl where
  h18 : tbl 18 = some cf18
  h38 : tbl 38 = some cf38
  h71 : tbl 71 = some cf71
  h79 : tbl 79 = some cf79
  h80 : tbl 80 = some cf80
  h83 : tbl 83 = some cf83
  h101 : tbl 101 = some cf101
  h102 : tbl 102 = some cf102
  h109 : tbl 109 = some cf109
  h110 : tbl 110 = some cf110
  h112 : tbl 112 = some cf112
  h114 : tbl 114 = some cf114
  h120 : tbl 120 = some cf120
  h139 : tbl 139 = some cf139
  h141 : tbl 141 = some cf141
  h142 : tbl 142 = some cf142
  h56 : tbl 56 = some cf56
  h57 : tbl 57 = some cf57
  h58 : tbl 58 = some cf58
  h59 : tbl 59 = some cf59
  h60 : tbl 60 = some cf60
  h63 : tbl 63 = some cf63
  h65 : tbl 65 = some cf65

section
variable {M : Mem} {hp : Pos} {P : Pos → Prop} {G : Hp} {tn : Int} {T : Tb}

/-- What is no table's kind has no slots. -/
theorem slots_kind (F : MeT tbl) {t : Vl} (hk : t.k ≠ 6) :
    CallW tbl 100 (.cons (.ptr hp 0) (.cons (VlA t) .nil)) M fun r M' => r = .ret (.tuple (.cons .nilslice (.cons (.bool false) .nil))) ∧ But (fun _ => False) M M' := by
  refine CallW.wf fun hw => ?_
  obtain ⟨tk, tn⟩ := t
  refine CallW.intro F.h100 rfl (fr := .nod (.val .leaf (.ptr hp 0) .leaf) (.val .leaf (VlA ⟨tk, tn⟩) .leaf)) rfl ?_
  have b1 := But.new (S := fun _ => False) hw (.cells [.int 3 tk, .int 3 tn] false)
  have g1 : (tk != 6) = true := by simpa using hk
  simp only [go_sem, cf100, VlA, g1]
  exact b1

theorem meta1_ok (F : MeT tbl) {sv : AV} (hcut : CutSl M sv 2 (VlL T.slots)) :
    CallW tbl 102 (.cons sv .nil) M fun r M' => r = .ret (.tuple (.cons (VlA T.met) (.cons (.int 3 0) .nil))) ∧ But (fun _ => False) M M' := by
  refine CallW.wf fun hw => ?_
  refine CallW.intro F.h102 rfl (fr := .nod (.val .leaf sv .leaf) .leaf) rfl ?_
  have hn : T.slots.length = T.arr.length + 2 * T.prs.length + 2 := by simp only [Tb.slots, List.length_cons, List.length_append, flatP_len]
  obtain ⟨p, po, a1, a2⟩ := vl_at hcut.1 (i := 0) (by omega)
  have hs0 : T.slots[0]'(by omega) = T.met := rfl
  rw [hs0] at a2
  have a3 : MB.cellsAt (M.get p) (po + 0) 2 = some [.int 3 T.met.k, .int 3 T.met.n] := by simpa using a2
  have g0 : 0 < T.slots.length := by omega
  have hbp : ∃ bp, M.get p = some bp := by
    cases hx : M.get p with
    | none => rw [hx] at a3; cases a3
    | some bp => exact ⟨bp, rfl⟩
  obtain ⟨bp, hbp⟩ := hbp
  have ne1 := hw.ne hbp
  simp only [go_sem, cf102, VlA, a1, a3, g0, ne1]
  exact But.fill hw (.cells [.int 3 0, .int 3 0] false) (.cells [.int 3 T.met.k, .int 3 T.met.n] false)

theorem meta_ok (F : MeT tbl) (hH : HeapIs M hp P G) (hT : HasT G tn T) :
    CallW tbl 50 (.cons (.ptr hp 0) (.cons (VlA ⟨6, tn⟩) .nil)) M fun r M' => r = .ret (.tuple (.cons (VlA T.met) (.cons (.int 3 0) .nil))) ∧ But (fun _ => False) M M' := by
  refine CallW.wf fun hw => ?_
  refine CallW.intro F.h50 rfl (fr := .nod (.val .leaf (.ptr hp 0) .leaf) (.val .leaf (VlA ⟨6, tn⟩) .leaf)) rfl ?_
  have b1 := But.new (S := fun _ => False) hw (.cells [.int 3 6, .int 3 tn] false)
  have w1 := hw.new (.cells [.int 3 6, .int 3 tn] false)
  have b2 := But.new (S := fun _ => False) w1 (.cells [.int 3 0, .int 3 0] false)
  have x2 : ((M.new (.cells [.int 3 6, .int 3 tn] false)).new (.cells [.int 3 0, .int 3 0] false)).get M.next.succ = some (.cells [.int 3 0, .int 3 0] false) := by simp only [go_sem]
  simp only [go_sem, cf50, VlA]
  refine (told91_ok F.toFnT (rv := T.met) (e := 0) (caps := .nil) (hH.quiet (b1.trans b2)) hT (fun sv M1 h1 b4 hcut => meta1_ok F hcut)).use ?_
  rintro r M4 hw4 ⟨rfl, b4⟩
  have x4 := b4.get _ _ id x2
  generalize T.met = rv
  obtain ⟨rk, rn⟩ := rv
  simp only [go_sem, VlA, x4]
  have bf := But.fresh (S := fun _ => False) hw ((((b1.trans b2).trans b4).any _).trans (But.put (S := fun p => False ∨ M.next.num ≤ p.num) (p := M.next.succ) _ (.inr (by rw [Pos.num_succ]; omega)) (.cells [.int 3 rk, .int 3 rn] false)))
  first | exact bf | exact ⟨rfl, bf⟩

theorem put_same {M : Mem} {p : Pos} {b : MB} (h : M.get p = some b) : M.put p b = M := by
  have : (fun q => if q = p then some b else M.get q) = M.get := by
    funext q
    split
    · rename_i e; rw [e, h]
    · rfl
  unfold Mem.put
  rw [this]

/-- A value laid in a slot. -/
def swapG (G : Hp) (n : Int) (i : Nat) (v : Vl) : Hp := { G with objs := upd G.objs n ((G.objs n).map fun o => { o with slots := o.slots.set i v }) }

theorem swap_ok (F : MeT tbl) {n : Int} {i : Nat} {v : Vl} {o : Ob} (hH : HeapIs M hp P G) (ho : G.objs n = some o) (hi : i < o.slots.length) (ht : thereV G v = true) :
    CallW tbl 79 (.cons (.ptr hp 0) (.cons (.int 3 n) (.cons (.int 3 (i : Int)) (.cons (VlA v) .nil)))) M fun r M' => r = .ret (.tuple (.cons (VlA o.slots[i]) (.cons (.int 3 0) .nil))) ∧ HeapIs M' hp P (swapG G n i v) ∧ But (fun p => ¬ P p) M M' := by
  refine CallW.wf fun hw => ?_
  obtain ⟨vk, vn⟩ := v
  have hH0 := hH
  obtain ⟨own, Y, rfl, hP, hB0⟩ := hH0
  refine CallW.intro F.h79 rfl (fr := .nod (.val (.val .leaf (.int 3 (i : Int)) .leaf) (.ptr Y.hp 0) .leaf) (.val (.val .leaf (VlA ⟨vk, vn⟩) .leaf) (.int 3 n) .leaf)) rfl ?_
  have b1 := But.new (S := fun _ => False) hw (.cells [.int 3 vk, .int 3 vn] false)
  have w1 := hw.new (.cells [.int 3 vk, .int 3 vn] false)
  have b2 := But.new (S := fun _ => False) w1 (.cells [.int 3 0, .int 3 0] false)
  have w2 := w1.new (.cells [.int 3 0, .int 3 0] false)
  have x1 : (M.new (.cells [.int 3 vk, .int 3 vn] false)).get M.next = some (.cells [.int 3 vk, .int 3 vn] false) := by simp only [go_sem]
  have y1 := b2.get _ _ id x1
  have x2 : ((M.new (.cells [.int 3 vk, .int 3 vn] false)).new (.cells [.int 3 0, .int 3 0] false)).get M.next.succ = some (.cells [.int 3 0, .int 3 0] false) := by simp only [go_sem]
  simp only [go_sem, cf79, VlA]
  generalize hM2 : (M.new (.cells [.int 3 vk, .int 3 vn] false)).new (.cells [.int 3 0, .int 3 0] false) = M2 at *
  have b12 := b1.trans b2
  refine (at_some F.h80 F.h75 (hH.quiet b12) ho hi).use ?_
  rintro r M3 hw3 ⟨rfl, b3⟩
  generalize hov : o.slots[i] = ov
  obtain ⟨ok_, on_⟩ := ov
  have b4 := But.fill hw3 (.cells [.int 3 0, .int 3 0] false) (.cells [.int 3 ok_, .int 3 on_] false)
  have w4 := hw3.fill (.cells [.int 3 0, .int 3 0] false) (.cells [.int 3 ok_, .int 3 on_] false)
  have x4 : ((M3.new (.cells [.int 3 0, .int 3 0] false)).put M3.next (.cells [.int 3 ok_, .int 3 on_] false)).get M3.next = some (.cells [.int 3 ok_, .int 3 on_] false) := by simp [Mem.put]
  have b34 := b3.trans b4
  have y4 := b34.get _ _ id y1
  have z4 := b34.get _ _ id x2
  have y3 := b3.get _ _ id y1
  have ne4 := hw3.ne y3
  simp only [go_sem, VlA, ne4, y3]
  generalize hM4 : (M3.new (.cells [.int 3 0, .int 3 0] false)).put M3.next (.cells [.int 3 ok_, .int 3 on_] false) = M4 at *
  have b14 := b12.trans b34
  have hB := hB0.quiet b14
  refine (there_spec F.h115 F.h77 F.h117 F.h143 (v := ⟨vk, vn⟩) hB).use ?_
  rintro r M5 hw5 ⟨rfl, b5⟩
  have hB5 := hB.quiet b5
  have y5 := b5.get _ _ id y4
  have z5 := b5.get _ _ id z4
  have x5 := b5.get _ _ id x4
  have hcc := hB5.hpc
  simp only [hpC] at hcc
  obtain ⟨es, c, m1, m2⟩ := hB5.mpc
  have hf := m2.find (.int 3 n) ⟨n, rfl⟩
  simp only [objF, ho, Option.map_some] at hf
  obtain ⟨o1, o2, o3⟩ := hB5.obj n o ho
  simp only [ObR] at o2
  have hlen := o3.len
  rw [vlL_len] at hlen
  obtain ⟨q, qo, a1, a2⟩ := vl_at o3.rows hi
  have ok1 : okKey (.leaf .int) (.int 3 n) = true := by simp [okKey, eqKey, eqLeaf]
  obtain ⟨b, st, hq, ⟨b0, hb0⟩, s4⟩ := o3.set_ (i := i) (by rw [vlL_len]; exact hi) (x := [.int 3 vk, .int 3 vn]) rfl rfl a1
  rw [Mem.store_eq] at st
  simp only [go_sem, ht, hcc, m1, hf, ok1, o2, a1, hi, y5, st]
  have hrow : (VlL o.slots).set i [.int 3 vk, .int 3 vn] = VlL (o.slots.set i ⟨vk, vn⟩) := by simp [VlL, VlR, List.map_set]
  rw [hrow] at s4
  have nqo : Y.ob n ≠ q := fun e => by rw [e, hq] at o1; cases o1
  have hset0 := hB5.setObj (n := n) (x := { o with slots := o.slots.set i ⟨vk, vn⟩ }) (OwnUp.refl _ _ _ _) (But.put (S := fun p => own p = some (5, n)) (p := q) M5 hq b) ho s4
  have hobn : (M5.put q b).get (Y.ob n) = some (.cells (ObR { o with slots := o.slots.set i ⟨vk, vn⟩ } (Y.sv n)) false) := by
    show (if Y.ob n = q then _ else M5.get (Y.ob n)) = _
    rw [if_neg nqo]
    exact o2
  rw [put_same hobn] at hset0
  have e : upd Y.sv n (Y.sv n) = Y.sv := by funext m; unfold upd; split <;> simp_all
  rw [e] at hset0
  have hsG : swapG G n i ⟨vk, vn⟩ = { G with objs := upd G.objs n (some { o with slots := o.slots.set i ⟨vk, vn⟩ }) } := by simp only [swapG, ho, Option.map_some]
  rw [hsG]
  refine (touch_spec F.h81 F.h85 hset0).use ?_
  rintro r M6 hw6 ⟨rfl, b6⟩
  have fresh : ∀ p : Pos, M.next.num ≤ p.num → p ≠ q := fun p hp e => by
    have := hB0.inn q (by rw [hq]; simp)
    rw [e] at hp
    omega
  have bq : But (fun p => p = q) M5 (M5.put q b) := But.put (S := fun p => p = q) (p := q) _ rfl _
  have hn3 := (b12.trans b3).next
  have x6 := b6.get _ _ id (bq.get _ _ (fresh _ hn3) x5)
  have z6 := b6.get _ _ id (bq.get _ _ (fresh _ (by rw [Pos.num_succ]; omega)) z5)
  simp only [go_sem, x6, z6]
  have hset6 := hset0.quiet b6
  have bz : But (fun p => p = M.next.succ) M6 (M6.put M.next.succ (.cells [.int 3 ok_, .int 3 on_] false)) := But.put (S := fun p => p = M.next.succ) (p := M.next.succ) _ rfl _
  have hfr : ∀ p : Pos, M.next.num ≤ p.num → own p = none := fun p hp => by
    cases h : own p with
    | none => rfl
    | some t => have := hB0.inn p (by rw [h]; simp); omega
  have nsu : M.next.succ.num = M.next.num + 1 := Pos.num_succ _
  have hset7 := hset6.keep (bz.mono fun p e => by rw [e]; exact hfr _ (by omega))
  have bb : But (fun p => ¬ P p) M (M6.put M.next.succ (.cells [.int 3 ok_, .int 3 on_] false)) := by
    have t1 : But (fun p => ¬ P p) M M6 := (((b14.trans b5).any _).trans (bq.mono fun p e => by rw [e]; exact HeapIs.not hP hq)).trans (b6.any _)
    exact t1.trans (bz.mono fun p e hp => by have := (hP p hp).2; rw [e] at this; omega)
  first | exact ⟨⟨own, Y, rfl, fun p hp => ⟨(hP p hp).1, Nat.lt_of_lt_of_le (hP p hp).2 bb.next⟩, hset7⟩, bb⟩ | exact ⟨rfl, ⟨own, Y, rfl, fun p hp => ⟨(hP p hp).1, Nat.lt_of_lt_of_le (hP p hp).2 bb.next⟩, hset7⟩, bb⟩
end
end Go.Proofs.Ythpnhdopheofcaa

end
section
namespace Go.Proofs.Ythpnhdopheofcaa
open Go.Dx
variable {tbl : Nat → Option CFunc}

def dropG (G : Hp) (v : Vl) : Hp := if refV v = true then { G with objs := upd G.objs v.n ((G.objs v.n).map fun o => { o with count := o.count - 1 }), buffer := if v.n ∈ G.buffer then G.buffer else G.buffer ++ [v.n] } else G

section
variable {M : Mem} {hp : Pos} {P : Pos → Prop} {G : Hp} {tn : Int} {T : Tb}

theorem setmeta_ok (F : MeT tbl) {m : Vl} (hH : HeapIs M hp P G) (hT : HasT G tn T) (hm : m = ⟨1, 0⟩ ∨ ∃ Tm, m.k = 6 ∧ HasT G m.n Tm) (hth : thereV G m = true)
    (hd : refV T.met = true → ∃ o1, (swapG G tn 0 m).objs T.met.n = some o1 ∧ o1.kind = T.met.k ∧ o1.kind ≠ 5 ∧ 2 ≤ o1.count ∧ o1.count < 2 ^ 62) (hbl : G.buffer.length < 2 ^ 30) :
    CallW tbl 49 (.cons (.ptr hp 0) (.cons (VlA ⟨6, tn⟩) (.cons (VlA m) .nil))) M fun r M' => r = .ret (.int 3 0) ∧ HeapIs M' hp P (dropG (swapG G tn 0 m) T.met) ∧ But (fun p => ¬ P p) M M' := by
  refine CallW.wf fun hw => ?_
  obtain ⟨mk, mn⟩ := m
  refine CallW.intro F.h49 rfl (fr := .nod (.val (.val .leaf (VlA ⟨mk, mn⟩) .leaf) (.ptr hp 0) .leaf) (.val .leaf (VlA ⟨6, tn⟩) .leaf)) rfl ?_
  have b1 := But.new (S := fun _ => False) hw (.cells [.ptr hp 0] false)
  have w1 := hw.new (.cells [.ptr hp 0] false)
  have b2 := But.new (S := fun _ => False) w1 (.cells [.int 3 6, .int 3 tn] false)
  have w2 := w1.new (.cells [.int 3 6, .int 3 tn] false)
  have b3 := But.new (S := fun _ => False) w2 (.cells [.int 3 mk, .int 3 mn] false)
  have w3 := w2.new (.cells [.int 3 mk, .int 3 mn] false)
  have xh0 : (M.new (.cells [.ptr hp 0] false)).get M.next = some (.cells [.ptr hp 0] false) := by simp only [go_sem]
  have xt0 : ((M.new (.cells [.ptr hp 0] false)).new (.cells [.int 3 6, .int 3 tn] false)).get M.next.succ = some (.cells [.int 3 6, .int 3 tn] false) := by simp only [go_sem]
  have xm : (((M.new (.cells [.ptr hp 0] false)).new (.cells [.int 3 6, .int 3 tn] false)).new (.cells [.int 3 mk, .int 3 mn] false)).get M.next.succ.succ = some (.cells [.int 3 mk, .int 3 mn] false) := by simp only [go_sem]
  have xh := (b2.trans b3).get _ _ id xh0
  have xt := b3.get _ _ id xt0
  have b13 := (b1.trans b2).trans b3
  have hH3 := hH.quiet b13
  have hHb3 := ((hH.more hw (.cells [.ptr hp 0] false)).quiet b2).quiet b3
  simp only [go_sem, cf49, VlA]
  generalize hM3 : ((M.new (.cells [.ptr hp 0] false)).new (.cells [.int 3 6, .int 3 tn] false)).new (.cells [.int 3 mk, .int 3 mn] false) = M3 at *
  have told : ∀ (P : Pos → Prop) M4, M4.wf → But (fun _ => False) M3 M4 → HeapIs M4 hp P G → CallW tbl 91 (.cons (.ptr hp 0) (.cons (VlA ⟨6, tn⟩) (.cons (.func (.func 101) .nil (.cons (.ptr M.next 0) (.cons (.ptr M.next.succ 0) (.cons (.ptr M.next.succ.succ 0) .nil)))) .nil))) M4 fun r M' => r = .ret (.tuple (.cons (VlA T.met) (.cons (.int 3 0) .nil))) ∧ HeapIs M' hp P (swapG G tn 0 ⟨mk, mn⟩) ∧ But (fun p => ¬ P p) M4 M' := by
    intro P M4 w4 b4 hH4
    refine CallW.intro F.h91 rfl (fr := .nod (.val (.val .leaf (.func (.func 101) .nil (.cons (.ptr M.next 0) (.cons (.ptr M.next.succ 0) (.cons (.ptr M.next.succ.succ 0) .nil)))) .leaf) (.ptr hp 0) .leaf) (.val .leaf (VlA ⟨6, tn⟩) .leaf)) rfl ?_
    have c1 := But.new (S := fun _ => False) w4 (.cells [.int 3 6, .int 3 tn] false)
    have v1 := w4.new (.cells [.int 3 6, .int 3 tn] false)
    have c2 := But.new (S := fun _ => False) v1 (.cells [.int 3 0, .int 3 0] false)
    have v2 := v1.new (.cells [.int 3 0, .int 3 0] false)
    have x2 : ((M4.new (.cells [.int 3 6, .int 3 tn] false)).new (.cells [.int 3 0, .int 3 0] false)).get M4.next.succ = some (.cells [.int 3 0, .int 3 0] false) := by simp only [go_sem]
    have nsu : M4.next.succ.num = M4.next.num + 1 := Pos.num_succ _
    have hW := (hH4.quiet c1).more v1 (.cells [.int 3 0, .int 3 0] false)
    have hnx : (M4.new (.cells [.int 3 6, .int 3 tn] false)).next = M4.next.succ := rfl
    rw [hnx] at hW
    simp only [go_sem, cf91, VlA]
    generalize hM5 : (M4.new (.cells [.int 3 6, .int 3 tn] false)).new (.cells [.int 3 0, .int 3 0] false) = M5 at *
    have c12 := c1.trans c2
    refine (slots_ok F.toFnT hW hT).use ?_
    rintro r M6 hw6 ⟨sv, rfl, hcut, c3⟩
    have x6 := c3.get _ _ id x2
    have hW6 := hW.quiet c3
    have c46 := b4.trans (c12.trans c3)
    simp only [go_sem]
    have hc : CallW tbl 101 (.cons sv (.cons (.ptr M.next 0) (.cons (.ptr M.next.succ 0) (.cons (.ptr M.next.succ.succ 0) .nil)))) M6 fun r M' => r = .ret (.tuple (.cons (VlA T.met) (.cons (.int 3 0) .nil))) ∧ HeapIs M' hp (fun p => P p ∨ p = M4.next.succ) (swapG G tn 0 ⟨mk, mn⟩) ∧ But (fun p => ¬ (P p ∨ p = M4.next.succ)) M6 M' := by
      refine CallW.intro F.h101 rfl (fr := .nod (.val (.val .leaf (.ptr M.next.succ 0) .leaf) sv .leaf) (.val (.val .leaf (.ptr M.next.succ.succ 0) .leaf) (.ptr M.next 0) .leaf)) rfl ?_
      have d1 := But.new (S := fun _ => False) hw6 (.cells [.int 3 0, .int 3 0] false)
      have u1 := hw6.new (.cells [.int 3 0, .int 3 0] false)
      have yh := c46.get _ _ id xh
      have yt := c46.get _ _ id xt
      have ym := c46.get _ _ id xm
      have nh := hw6.ne yh
      have nt := hw6.ne yt
      have nm := hw6.ne ym
      have xz : (M6.new (.cells [.int 3 0, .int 3 0] false)).get M6.next = some (.cells [.int 3 0, .int 3 0] false) := by simp only [go_sem]
      have hW7 := hW6.more hw6 (.cells [.int 3 0, .int 3 0] false)
      obtain ⟨o, ho, hok, hos⟩ := hT.obj
      have hn : T.slots.length = T.arr.length + 2 * T.prs.length + 2 := by simp only [Tb.slots, List.length_cons, List.length_append, flatP_len]
      have hi : 0 < o.slots.length := by rw [hos]; omega
      have hs0 : o.slots[0] = T.met := by simp only [hos]; rfl
      simp only [go_sem, cf101, yh, yt, ym, nh, nt, nm]
      refine (swap_ok F (i := 0) (v := ⟨mk, mn⟩) hW7 ho hi hth).use ?_
      rintro r M8 hw8 ⟨rfl, hH8, d8⟩
      rw [hs0]
      have z8 := d8.get _ _ (fun h => h (.inr rfl)) xz
      generalize T.met = mv
      obtain ⟨rk, rn⟩ := mv
      simp only [go_sem, VlA, z8]
      have bz : But (fun p => p = M6.next) M8 (M8.put M6.next (.cells [.int 3 rk, .int 3 rn] false)) := But.put (S := fun p => p = M6.next) (p := M6.next) _ rfl _
      have hlo : ∀ p, (P p ∨ p = M4.next.succ) → p.num < M6.next.num := fun p hp => by obtain ⟨_, _, _, h2, _⟩ := hW6; exact (h2 p hp).2
      have hH9 := (hH8.frame (bz.mono fun p e => .inr e)).less (Q := fun p => P p ∨ p = M4.next.succ) fun p hp => .inl hp
      have t1 : But (fun p => ¬ (P p ∨ p = M4.next.succ)) M6 M8 := (d1.any _).trans (d8.mono fun p hn hp => hn (.inl hp))
      have bb := t1.trans (bz.mono fun p e hp => by have := hlo p hp; rw [e] at this; omega)
      first | exact ⟨hH9, bb⟩ | exact ⟨rfl, hH9, bb⟩
    refine hc.use ?_
    rintro r M7 hw7 ⟨rfl, hH7, c7⟩
    have x7 := c7.get _ _ (fun h => h (.inr rfl)) x6
    generalize T.met = mv
    obtain ⟨rk, rn⟩ := mv
    simp only [go_sem, VlA, x7]
    have bz : But (fun p => p = M4.next.succ) M7 (M7.put M4.next.succ (.cells [.int 3 rk, .int 3 rn] false)) := But.put (S := fun p => p = M4.next.succ) (p := M4.next.succ) _ rfl _
    have hlo : ∀ p, P p → p.num < M4.next.num := fun p hp => by obtain ⟨_, _, _, h2, _⟩ := hH4; exact (h2 p hp).2
    have hH9 := (hH7.frame (bz.mono fun p e => .inr e)).less (Q := P) fun p hp => .inl hp
    have hc7 : But (fun p => ¬ P p) M4 M7 := ((c12.trans c3).any _).trans (c7.mono fun p hn hp => hn (.inl hp))
    have bb := hc7.trans (bz.mono fun p e hp => by have := hlo p hp; rw [e] at this; omega)
    first | exact ⟨hH9, bb⟩ | exact ⟨rfl, hH9, bb⟩
  have hsl : CallW tbl 100 (.cons (.ptr hp 0) (.cons (VlA ⟨mk, mn⟩) .nil)) M3 fun r M' => (∃ sv is, r = .ret (.tuple (.cons sv (.cons (.bool is) .nil))) ∧ (is = true ∨ (mk = 1 ∧ mn = 0 ∧ is = false))) ∧ But (fun _ => False) M3 M' := by
    rcases hm with hm | ⟨Tm, hm1, hm2⟩
    · cases hm
      refine (slots_kind F (t := ⟨1, 0⟩) (by decide)).use ?_
      rintro r M' hw' ⟨rfl, b'⟩
      exact ⟨⟨_, _, rfl, .inr ⟨rfl, rfl, rfl⟩⟩, b'⟩
    · simp only at hm1 hm2
      subst hm1
      refine (slots_ok F.toFnT hH3 hm2).use ?_
      rintro r M' hw' ⟨sv, rfl, _, b'⟩
      exact ⟨⟨_, _, rfl, .inl rfl⟩, b'⟩
  refine hsl.use ?_
  rintro r M4 hw4 ⟨⟨sv, is, rfl, his⟩, b4⟩
  have yh := b4.get _ _ id xh
  have yt := b4.get _ _ id xt
  have ym := b4.get _ _ id xm
  have fin : ∀ (M5 : Mem) (w5 : M5.wf), HeapIs M5 hp P (swapG G tn 0 ⟨mk, mn⟩) → But (fun p => ¬ P p) M M5 → CallW tbl 38 (.cons (.ptr hp 0) (.cons (VlA T.met) .nil)) M5 fun r M' => HeapIs M' hp P (dropG (swapG G tn 0 ⟨mk, mn⟩) T.met) ∧ But (fun p => ¬ P p) M M' ∧ ∃ e, r = .ret (.int 3 e) := by
    intro M5 w5 hH5 c5
    cases hr : refV T.met with
    | false =>
      refine (drop_no F.h38 F.h71 F.h77 F.h81 F.h83 F.h85 F.h115 F.h117 F.h120 F.h143 hH5 hr).use ?_
      rintro r M' hw' ⟨rfl, b'⟩
      have e : dropG (swapG G tn 0 ⟨mk, mn⟩) T.met = swapG G tn 0 ⟨mk, mn⟩ := by simp only [dropG, hr, Bool.false_eq_true, if_false]
      rw [e]
      exact ⟨hH5.quiet b', c5.trans (b'.any _), _, rfl⟩
    | true =>
      obtain ⟨o1, q1, q2, q3, q4, q5⟩ := hd hr
      refine (drop_more F.h38 F.h71 F.h77 F.h81 F.h83 F.h85 F.h115 F.h117 F.h120 F.h143 hH5 hr q1 q2 q3 ⟨q4, q5⟩ hbl).use ?_
      rintro r M' hw' ⟨rfl, hH', b'⟩
      have e : dropG (swapG G tn 0 ⟨mk, mn⟩) T.met = { swapG G tn 0 ⟨mk, mn⟩ with objs := upd (swapG G tn 0 ⟨mk, mn⟩).objs T.met.n (some { o1 with count := o1.count - 1 }), buffer := if T.met.n ∈ (swapG G tn 0 ⟨mk, mn⟩).buffer then (swapG G tn 0 ⟨mk, mn⟩).buffer else (swapG G tn 0 ⟨mk, mn⟩).buffer ++ [T.met.n] } := by
        simp only [dropG, hr, if_true, q1, Option.map_some]
      rw [e]
      exact ⟨hH', c5.trans b', _, rfl⟩
  have hlo : ∀ p, P p → p.num < M.next.num := fun p hp => by obtain ⟨_, _, _, h2, _⟩ := hH; exact (h2 p hp).2
  have hHb := hHb3.quiet b4
  have b14 := b13.trans b4
  have go : ∀ (rv : Vl), rv = T.met → True := fun _ _ => trivial
  rcases his with his | ⟨his1, his2, his3⟩
  · subst his
    simp only [go_sem, yh, ym, yt]
    refine (told (fun p => P p ∨ p = M.next) M4 hw4 b4 hHb).use ?_
    rintro r M5 hw5 ⟨rfl, hH5, b5⟩
    have zh := b5.get _ _ (fun h => h (.inr rfl)) yh
    have ne5 := hw5.ne zh
    have bf := But.fill hw5 (.cells [.int 3 0, .int 3 0] false) (.cells [.int 3 T.met.k, .int 3 T.met.n] false)
    have wf := hw5.fill (.cells [.int 3 0, .int 3 0] false) (.cells [.int 3 T.met.k, .int 3 T.met.n] false)
    have fin' := fin _ wf ((hH5.quiet bf).less (Q := P) fun p hp => .inl hp) (((b14.any _).trans (b5.mono fun p hn hp => hn (.inl hp))).trans (bf.any _))
    generalize hv : dropG (swapG G tn 0 ⟨mk, mn⟩) T.met = G' at *
    generalize T.met = mv at *
    obtain ⟨rk, rn⟩ := mv
    simp only [go_sem, VlA, zh, ne5]
    simp only [VlA] at fin'
    refine fin'.use ?_
    rintro r M6 hw6 ⟨hH6, b6, e, rfl⟩
    simp only [go_sem]
    first | exact ⟨hH6, b6⟩ | exact ⟨rfl, hH6, b6⟩
  · subst his1 his2 his3
    simp only [go_sem, yh, ym, yt]
    refine (told (fun p => P p ∨ p = M.next) M4 hw4 b4 hHb).use ?_
    rintro r M5 hw5 ⟨rfl, hH5, b5⟩
    have zh := b5.get _ _ (fun h => h (.inr rfl)) yh
    have ne5 := hw5.ne zh
    have bf := But.fill hw5 (.cells [.int 3 0, .int 3 0] false) (.cells [.int 3 T.met.k, .int 3 T.met.n] false)
    have wf := hw5.fill (.cells [.int 3 0, .int 3 0] false) (.cells [.int 3 T.met.k, .int 3 T.met.n] false)
    have fin' := fin _ wf ((hH5.quiet bf).less (Q := P) fun p hp => .inl hp) (((b14.any _).trans (b5.mono fun p hn hp => hn (.inl hp))).trans (bf.any _))
    generalize hv : dropG (swapG G tn 0 ⟨1, 0⟩) T.met = G' at *
    generalize T.met = mv at *
    obtain ⟨rk, rn⟩ := mv
    simp only [go_sem, VlA, zh, ne5]
    simp only [VlA] at fin'
    refine fin'.use ?_
    rintro r M6 hw6 ⟨hH6, b6, e, rfl⟩
    simp only [go_sem]
    first | exact ⟨hH6, b6⟩ | exact ⟨rfl, hH6, b6⟩
end
end Go.Proofs.Ythpnhdopheofcaa

end
section
namespace Go.Proofs.Ythpnhdopheofcaa
open Go.Dx
variable {tbl : Nat → Option CFunc}

def markG (G : Hp) (n : Int) : Hp := match G.objs n with
  | none => G
  | some o => if o.mark = 0 then { G with marks := G.marks + 1, objs := upd G.objs n (some { o with mark := G.marks + 1 }) } else G

section
variable {M : Mem} {hp : Pos} {P : Pos → Prop} {G : Hp} {n : Int} {o : Ob}

theorem mark_ok (F : MeT tbl) (hH : HeapIs M hp P G) (ho : G.objs n = some o) (hm : 0 ≤ G.marks ∧ G.marks < 2 ^ 62) :
    CallW tbl 110 (.cons (.ptr hp 0) (.cons (.int 3 n) .nil)) M fun r M' => (∃ e, r = .ret (.int 3 e)) ∧ HeapIs M' hp P (markG G n) ∧ But (fun p => ¬ P p) M M' := by
  refine CallW.wf fun hw => ?_
  obtain ⟨own, Y, rfl, hP, hB⟩ := hH
  refine CallW.intro F.h110 rfl (fr := .nod (.val .leaf (.ptr Y.hp 0) .leaf) (.val .leaf (.int 3 n) .leaf)) rfl ?_
  simp only [go_sem, cf110]
  refine (find_some F.h75 hB ho).use ?_
  rintro r M1 hw1 ⟨rfl, rfl⟩
  obtain ⟨o1, o2, o3⟩ := hB.obj n o ho
  simp only [ObR] at o2
  by_cases hz : o.mark = 0
  · have g1 : (o.mark != 0) = false := by simp [hz]
    have hcc := hB.hpc
    simp only [hpC] at hcc
    have e1 : IntKind.i64.wrap (G.marks + 1) = G.marks + 1 := wrap64 (by omega) (by omega)
    have hs1 := hB.setMarks (OwnUp.refl _ _ _ _) (But.refl _ _) (G.marks + 1)
    have hs2 := hs1.setOb (x := { o with mark := G.marks + 1 }) ho rfl
    simp only [ObR] at hs2
    have nho : Y.hp ≠ Y.ob n := fun e => by have := hB.hpo; rw [e, o1] at this; cases this
    have nho1 : (Y.hp = Y.ob n) = False := by simp [nho]
    have nho2 : (Y.ob n = Y.hp) = False := by simp [Ne.symm nho]
    simp only [go_sem, o2, g1, hcc, e1, nho1, nho2]
    refine (touch_spec F.h81 F.h85 hs2).use ?_
    rintro r M6 hw6 ⟨rfl, b6⟩
    have hs3 := hs2.quiet b6
    obtain ⟨_, p2, _⟩ := hs3.obj n { o with mark := G.marks + 1 } (by simp [upd])
    simp only [ObR] at p2
    simp only [go_sem, p2]
    have hG : markG G n = { G with marks := G.marks + 1, objs := upd G.objs n (some { o with mark := G.marks + 1 }) } := by simp only [markG, ho, hz, if_true]
    rw [hG]
    have bb : But (fun p => ¬ P p) M1 M6 := ((But.put (S := fun p => ¬ P p) (p := Y.hp) _ (HeapIs.not hP hB.hpo) _).trans (But.put (S := fun p => ¬ P p) (p := Y.ob n) _ (HeapIs.not hP o1) _)).trans (b6.any _)
    first | exact ⟨⟨_, rfl⟩, ⟨own, Y, rfl, fun p hp => ⟨(hP p hp).1, Nat.lt_of_lt_of_le (hP p hp).2 bb.next⟩, hs3⟩, bb⟩ | exact ⟨_, rfl, ⟨own, Y, rfl, fun p hp => ⟨(hP p hp).1, Nat.lt_of_lt_of_le (hP p hp).2 bb.next⟩, hs3⟩, bb⟩
  · have g1 : (o.mark != 0) = true := by simp [hz]
    simp only [go_sem, o2, g1]
    have hG : markG G n = G := by simp only [markG, ho, hz, if_false]
    rw [hG]
    exact ⟨⟨_, rfl⟩, ⟨own, Y, rfl, hP, hB⟩, But.refl _ _⟩
end
end Go.Proofs.Ythpnhdopheofcaa

end
section
namespace Go.Proofs.Ythpnhdopheofcaa
open Go.Dx
variable {tbl : Nat → Option CFunc}

/-- The object that is a text. -/
def gcO (c : Int) : Ob := ⟨5, c, [], 4, 1667719007, 0⟩
def gcM (n : Int) : ME := .cons (.str 4 1667719007) (.int 3 n) 0 .nil
/-- The strings of a heap: none, or one that is numbered. -/
def StrIs (M : Mem) (hp sp mp : Pos) : Option Int → Prop
  | none => M.get sp = some (.cells [.ptr hp 0, .map mp] false) ∧ M.get mp = some (.map .nil 0)
  | some n => M.get sp = some (.cells [.ptr hp 0, .map mp] false) ∧ M.get mp = some (.map (gcM n) 1)
theorem StrIs.sp {M : Mem} {hp sp mp : Pos} {x : Option Int} (h : StrIs M hp sp mp x) : M.get sp = some (.cells [.ptr hp 0, .map mp] false) := by
  cases x with
  | none => exact h.1
  | some n => exact h.1
theorem StrIs.but {M M' : Mem} {hp sp mp : Pos} {x : Option Int} {S : Pos → Prop} (h : StrIs M hp sp mp x) (hb : But S M M') (h1 : ¬ S sp) (h2 : ¬ S mp) : StrIs M' hp sp mp x := by
  cases x with
  | none => exact ⟨hb.get _ _ h1 h.1, hb.get _ _ h2 h.2⟩
  | some n => exact ⟨hb.get _ _ h1 h.1, hb.get _ _ h2 h.2⟩

theorem But.skip (S : Pos → Prop) (M : Mem) : But S M ⟨M.next.succ, M.get⟩ := ⟨by show M.next.num ≤ M.next.succ.num; rw [Pos.num_succ]; omega, fun _ _ _ h => h⟩
theorem Mem.wf.skip {M : Mem} (hw : M.wf) : (⟨M.next.succ, M.get⟩ : Mem).wf := fun p b h => by
  have := hw p b h
  show p.num < M.next.succ.num
  rw [Pos.num_succ]; omega

section
variable {M : Mem} {hp : Pos} {P : Pos → Prop} {G : Hp} {sp mp : Pos}

theorem strnew_ok (F : MeT tbl) : CallW tbl 56 (.cons (.ptr hp 0) .nil) M fun r M' => r = .ret (.ptr M.next.succ 0) ∧ StrIs M' hp M.next.succ M.next none ∧ But (fun _ => False) M M' := by
  refine CallW.wf fun hw => ?_
  refine CallW.intro F.h56 rfl (fr := .nod (.val .leaf (.ptr hp 0) .leaf) .leaf) rfl ?_
  have b1 := But.new (S := fun _ => False) hw (.map .nil 0)
  have w1 := hw.new (.map .nil 0)
  have b2 := But.new (S := fun _ => False) w1 (.cells [.ptr hp 0, .map M.next] false)
  simp only [go_sem, cf56]
  first | refine ⟨⟨?_, ?_⟩, b1.trans b2⟩ | refine ⟨rfl, ⟨?_, ?_⟩, b1.trans b2⟩
  · simp only [go_sem]
  · simp only [go_sem]

/-- An object that is a text. -/
theorem string_ok (F : MeT tbl) {n c : Int} (hS : M.get sp = some (.cells [.ptr hp 0, .map mp] false)) (hH : HeapIs M hp P G) (ho : G.objs n = some (gcO c)) (hn : (kindOf 3).wrap ((kindOf 2).wrap n) = n) :
    CallW tbl 141 (.cons (.ptr sp 0) (.cons (VlA ⟨5, n⟩) .nil)) M fun r M' => (∃ sv, isCell sv = true ∧ r = .ret (.tuple (.cons (ObA (gcO c) sv) (.cons (.bool true) .nil)))) ∧ But (fun _ => False) M M' := by
  refine CallW.wf fun hw => ?_
  refine CallW.intro F.h141 rfl (fr := .nod (.val .leaf (.ptr sp 0) .leaf) (.val .leaf (VlA ⟨5, n⟩) .leaf)) rfl ?_
  have b1 := But.new (S := fun _ => False) hw (.cells [.int 3 5, .int 3 n] false)
  have w1 := hw.new (.cells [.int 3 5, .int 3 n] false)
  have b2 := But.new (S := fun _ => False) w1 (.cells [.int 3 0, .int 3 0, .nilslice, .str 0 0, .int 3 0] false)
  have x2 : ((M.new (.cells [.int 3 5, .int 3 n] false)).new (.cells [.int 3 0, .int 3 0, .nilslice, .str 0 0, .int 3 0] false)).get M.next.succ = some (.cells [.int 3 0, .int 3 0, .nilslice, .str 0 0, .int 3 0] false) := by simp only [go_sem]
  have b12 := b1.trans b2
  have g1 : (n != n) = false := by simp
  have ne := hw.ne hS
  have ne' := w1.ne (b1.get _ _ id hS)
  have bs : But (fun _ => False) ((M.new (.cells [.int 3 5, .int 3 n] false)).new (.cells [.int 3 0, .int 3 0, .nilslice, .str 0 0, .int 3 0] false)) ⟨M.next.succ.succ.succ, ((M.new (.cells [.int 3 5, .int 3 n] false)).new (.cells [.int 3 0, .int 3 0, .nilslice, .str 0 0, .int 3 0] false)).get⟩ := But.skip _ _
  have nx : (M.new (.cells [.int 3 5, .int 3 n] false)).next = M.next.succ := rfl
  rw [nx] at ne'
  simp only [go_sem, cf141, VlA, hn, g1, hS, ne, ne']
  generalize hM2 : (M.new (.cells [.int 3 5, .int 3 n] false)).new (.cells [.int 3 0, .int 3 0, .nilslice, .str 0 0, .int 3 0] false) = M2 at *
  have hnx : ({ next := M.next.succ.succ.succ, get := M2.get } : Mem).next = M.next.succ.succ.succ := rfl
  generalize hM2r : ({ next := M.next.succ.succ.succ, get := M2.get } : Mem) = M2r at *
  have b13 := b12.trans bs
  refine (obj_some F.h25 F.h75 F.h76 (hH.quiet b13) ho (by simp [gcO, most])).use ?_
  rintro r M3 hw3 ⟨sv, rfl, hf, b3⟩
  have x3 := (bs.trans b3).get _ _ id x2
  have hsc := hf.cell
  simp only [go_sem, gcO, ObA, x3, hsc]
  have n1 : M.next.succ.num = M.next.num + 1 := Pos.num_succ _
  have n2 : M.next.succ.succ.num = M.next.num + 2 := by rw [Pos.num_succ, n1]
  have bp : But (fun p => False ∨ M.next.num ≤ p.num) M3 (((M3.put M.next.succ.succ (.cells [.int 3 0, .int 3 0, .nilslice, .str 0 0, .int 3 0] false)).put M.next.succ.succ (.cells [.int 3 5, .int 3 c, sv, .str 4 1667719007, .int 3 0] false)).put M.next.succ (.cells [.int 3 5, .int 3 c, sv, .str 4 1667719007, .int 3 0] false)) := ((But.put (p := M.next.succ.succ) _ (.inr (by omega)) _).trans (But.put (p := M.next.succ.succ) _ (.inr (by omega)) _)).trans (But.put (p := M.next.succ) _ (.inr (by omega)) _)
  have bb := But.fresh (S := fun _ => False) hw (((b13.trans b3).any _).trans bp)
  have n3 : M.next.succ.succ.succ.num = M.next.num + 3 := by rw [Pos.num_succ, n2]
  have l1 : M.next.succ.succ.num < M2r.next.num := by rw [hnx]; omega
  have l2 : M.next.succ.succ.num < M3.next.num := Nat.lt_of_lt_of_le l1 b3.next
  exact ⟨⟨l2, l1⟩, ⟨sv, hsc, rfl⟩, bb⟩

/-- No object. -/
theorem string_no (F : MeT tbl) (hS : M.get sp = some (.cells [.ptr hp 0, .map mp] false)) (hH : HeapIs M hp P G) (ho : G.objs 0 = none) :
    CallW tbl 141 (.cons (.ptr sp 0) (.cons (VlA ⟨5, 0⟩) .nil)) M fun r M' => (r = .ret (.tuple (.cons (ObA ⟨0, 0, [], 0, 0, 0⟩ .nilslice) (.cons (.bool false) .nil)))) ∧ But (fun _ => False) M M' := by
  refine CallW.wf fun hw => ?_
  refine CallW.intro F.h141 rfl (fr := .nod (.val .leaf (.ptr sp 0) .leaf) (.val .leaf (VlA ⟨5, 0⟩) .leaf)) rfl ?_
  have b1 := But.new (S := fun _ => False) hw (.cells [.int 3 5, .int 3 0] false)
  have w1 := hw.new (.cells [.int 3 5, .int 3 0] false)
  have b2 := But.new (S := fun _ => False) w1 (.cells [.int 3 0, .int 3 0, .nilslice, .str 0 0, .int 3 0] false)
  have x2 : ((M.new (.cells [.int 3 5, .int 3 0] false)).new (.cells [.int 3 0, .int 3 0, .nilslice, .str 0 0, .int 3 0] false)).get M.next.succ = some (.cells [.int 3 0, .int 3 0, .nilslice, .str 0 0, .int 3 0] false) := by simp only [go_sem]
  have b12 := b1.trans b2
  have hn : (kindOf 3).wrap ((kindOf 2).wrap 0) = 0 := by decide
  have g1 : ((0 : Int) != 0) = false := rfl
  have ne := hw.ne hS
  have ne' := w1.ne (b1.get _ _ id hS)
  have bs : But (fun _ => False) ((M.new (.cells [.int 3 5, .int 3 0] false)).new (.cells [.int 3 0, .int 3 0, .nilslice, .str 0 0, .int 3 0] false)) ⟨M.next.succ.succ.succ, ((M.new (.cells [.int 3 5, .int 3 0] false)).new (.cells [.int 3 0, .int 3 0, .nilslice, .str 0 0, .int 3 0] false)).get⟩ := But.skip _ _
  have nx : (M.new (.cells [.int 3 5, .int 3 0] false)).next = M.next.succ := rfl
  rw [nx] at ne'
  simp only [go_sem, cf141, VlA, hn, g1, hS, ne, ne']
  generalize hM2 : (M.new (.cells [.int 3 5, .int 3 0] false)).new (.cells [.int 3 0, .int 3 0, .nilslice, .str 0 0, .int 3 0] false) = M2 at *
  have hnx : ({ next := M.next.succ.succ.succ, get := M2.get } : Mem).next = M.next.succ.succ.succ := rfl
  generalize hM2r : ({ next := M.next.succ.succ.succ, get := M2.get } : Mem) = M2r at *
  have b13 := b12.trans bs
  refine (obj_none F.h25 F.h75 F.h76 (hH.quiet b13) ho).use ?_
  rintro r M3 hw3 ⟨rfl, b3⟩
  have x3 := (bs.trans b3).get _ _ id x2
  simp only [go_sem, ObA, x3]
  have n1 : M.next.succ.num = M.next.num + 1 := Pos.num_succ _
  have n2 : M.next.succ.succ.num = M.next.num + 2 := by rw [Pos.num_succ, n1]
  have bp : But (fun p => False ∨ M.next.num ≤ p.num) M3 (((M3.put M.next.succ.succ (.cells [.int 3 0, .int 3 0, .nilslice, .str 0 0, .int 3 0] false)).put M.next.succ.succ (.cells [.int 3 0, .int 3 0, .nilslice, .str 0 0, .int 3 0] false)).put M.next.succ (.cells [.int 3 0, .int 3 0, .nilslice, .str 0 0, .int 3 0] false)) := ((But.put (p := M.next.succ.succ) _ (.inr (by omega)) _).trans (But.put (p := M.next.succ.succ) _ (.inr (by omega)) _)).trans (But.put (p := M.next.succ) _ (.inr (by omega)) _)
  have bb := But.fresh (S := fun _ => False) hw (((b13.trans b3).any _).trans bp)
  have n3 : M.next.succ.succ.succ.num = M.next.num + 3 := by rw [Pos.num_succ, n2]
  have l1 : M.next.succ.succ.num < M2r.next.num := by rw [hnx]; omega
  have l2 : M.next.succ.succ.num < M3.next.num := Nat.lt_of_lt_of_le l1 b3.next
  exact ⟨⟨l2, l1⟩, bb⟩
end
end Go.Proofs.Ythpnhdopheofcaa

end
section
namespace Go.Proofs.Ythpnhdopheofcaa
open Go.Dx
variable {tbl : Nat → Option CFunc}

section
variable {M : Mem} {hp : Pos} {P : Pos → Prop} {G : Hp} {sp mp : Pos}

/-- What is held under the number. -/
theorem held_ok (F : MeT tbl) {n c : Int} {lb xb : Pos} (hS : M.get sp = some (.cells [.ptr hp 0, .map mp] false)) (hl : M.get lb = some (.cells [.func (.func 141) (.cons (.ptr sp 0) .nil) .nil] false)) (hx : M.get xb = some (.cells [.str 4 1667719007] false))
    (hH : HeapIs M hp P G) (ho : G.objs n = some (gcO c)) (hn : (kindOf 3).wrap ((kindOf 2).wrap n) = n) (hc : c ≠ 0) :
    CallW tbl 142 (.cons (.int 3 n) (.cons (.bool true) (.cons (.ptr lb 0) (.cons (.ptr xb 0) .nil)))) M fun r M' => r = .ret (.tuple (.cons (VlA ⟨5, n⟩) (.cons (.bool true) .nil))) ∧ But (fun _ => False) M M' := by
  refine CallW.wf fun hw => ?_
  refine CallW.intro F.h142 rfl (fr := .nod (.val (.val .leaf (.ptr lb 0) .leaf) (.int 3 n) .leaf) (.val (.val .leaf (.ptr xb 0) .leaf) (.bool true) .leaf)) rfl ?_
  have b1 := But.new (S := fun _ => False) hw (.cells [.int 3 0, .int 3 0] false)
  have w1 := hw.new (.cells [.int 3 0, .int 3 0] false)
  have b2 := But.fill w1 (.cells [.int 3 0, .int 3 0] false) (.cells [.int 3 5, .int 3 n] false)
  have w2 := w1.fill (.cells [.int 3 0, .int 3 0] false) (.cells [.int 3 5, .int 3 n] false)
  have x1 : (M.new (.cells [.int 3 0, .int 3 0] false)).get M.next = some (.cells [.int 3 0, .int 3 0] false) := by simp only [go_sem]
  have x2 : (((M.new (.cells [.int 3 0, .int 3 0] false)).new (.cells [.int 3 0, .int 3 0] false)).put M.next.succ (.cells [.int 3 5, .int 3 n] false)).get M.next.succ = some (.cells [.int 3 5, .int 3 n] false) := by simp [Mem.put]
  have nx : (M.new (.cells [.int 3 0, .int 3 0] false)).next = M.next.succ := rfl
  have ne1 := hw.ne hl
  have ne2 := w1.ne (b1.get _ _ id hl)
  rw [nx] at ne2 b2 w2
  have y1 := b2.get _ _ id x1
  have b12 := b1.trans b2
  have hS2 := b12.get _ _ id hS
  have hx2 := b12.get _ _ id hx
  simp only [go_sem, cf142, VlA, hl, ne1, ne2]
  generalize hM2 : ((M.new (.cells [.int 3 0, .int 3 0] false)).new (.cells [.int 3 0, .int 3 0] false)).put M.next.succ (.cells [.int 3 5, .int 3 n] false) = M2 at *
  refine (string_ok F hS2 (hH.quiet b12) ho hn).use ?_
  rintro r M3 hw3 ⟨⟨sv, hsc, rfl⟩, b3⟩
  have y3 := b3.get _ _ id y1
  have x3 := b3.get _ _ id x2
  have hx3 := b3.get _ _ id hx2
  have b4 := But.fill hw3 (.cells [.int 3 0, .int 3 0, .nilslice, .str 0 0, .int 3 0] false) (.cells [.int 3 5, .int 3 c, sv, .str 4 1667719007, .int 3 0] false)
  have ne3 := hw3.ne y3
  have ne4 := hw3.ne x3
  have ne5 := hw3.ne hx3
  have g1 : (c == 0) = false := by simp [hc]
  simp only [go_sem, gcO, ObA, y3, x3, hx3, ne3, ne4, ne5, g1, hsc]
  have bb := But.fresh (S := fun _ => False) hw ((((b12.trans b3).trans b4).any _).trans (But.put (S := fun p => False ∨ M.next.num ≤ p.num) (p := M.next) _ (.inr (Nat.le_refl _)) (.cells [.int 3 5, .int 3 n] false)))
  first | exact bb | exact ⟨rfl, bb⟩

/-- Nothing is held. -/
theorem held_no (F : MeT tbl) {lb xb : Pos} (hS : M.get sp = some (.cells [.ptr hp 0, .map mp] false)) (hl : M.get lb = some (.cells [.func (.func 141) (.cons (.ptr sp 0) .nil) .nil] false)) (hx : M.get xb = some (.cells [.str 4 1667719007] false))
    (hH : HeapIs M hp P G) (ho : G.objs 0 = none) :
    CallW tbl 142 (.cons (.int 3 0) (.cons (.bool false) (.cons (.ptr lb 0) (.cons (.ptr xb 0) .nil)))) M fun r M' => r = .ret (.tuple (.cons (VlA ⟨0, 0⟩) (.cons (.bool false) .nil))) ∧ But (fun _ => False) M M' := by
  refine CallW.wf fun hw => ?_
  refine CallW.intro F.h142 rfl (fr := .nod (.val (.val .leaf (.ptr lb 0) .leaf) (.int 3 0) .leaf) (.val (.val .leaf (.ptr xb 0) .leaf) (.bool false) .leaf)) rfl ?_
  have b1 := But.new (S := fun _ => False) hw (.cells [.int 3 0, .int 3 0] false)
  have w1 := hw.new (.cells [.int 3 0, .int 3 0] false)
  have b2 := But.fill w1 (.cells [.int 3 0, .int 3 0] false) (.cells [.int 3 5, .int 3 0] false)
  have w2 := w1.fill (.cells [.int 3 0, .int 3 0] false) (.cells [.int 3 5, .int 3 0] false)
  have x1 : (M.new (.cells [.int 3 0, .int 3 0] false)).get M.next = some (.cells [.int 3 0, .int 3 0] false) := by simp only [go_sem]
  have x2 : (((M.new (.cells [.int 3 0, .int 3 0] false)).new (.cells [.int 3 0, .int 3 0] false)).put M.next.succ (.cells [.int 3 5, .int 3 0] false)).get M.next.succ = some (.cells [.int 3 5, .int 3 0] false) := by simp [Mem.put]
  have nx : (M.new (.cells [.int 3 0, .int 3 0] false)).next = M.next.succ := rfl
  have ne1 := hw.ne hl
  have ne2 := w1.ne (b1.get _ _ id hl)
  rw [nx] at ne2 b2 w2
  have y1 := b2.get _ _ id x1
  have b12 := b1.trans b2
  have hS2 := b12.get _ _ id hS
  have hx2 := b12.get _ _ id hx
  simp only [go_sem, cf142, VlA, hl, ne1, ne2]
  generalize hM2 : ((M.new (.cells [.int 3 0, .int 3 0] false)).new (.cells [.int 3 0, .int 3 0] false)).put M.next.succ (.cells [.int 3 5, .int 3 0] false) = M2 at *
  refine (string_no F hS2 (hH.quiet b12) ho).use ?_
  rintro r M3 hw3 ⟨rfl, b3⟩
  have y3 := b3.get _ _ id y1
  have x3 := b3.get _ _ id x2
  have hx3 := b3.get _ _ id hx2
  have b4 := But.fill hw3 (.cells [.int 3 0, .int 3 0, .nilslice, .str 0 0, .int 3 0] false) (.cells [.int 3 0, .int 3 0, .nilslice, .str 0 0, .int 3 0] false)
  have ne3 := hw3.ne y3
  have ne4 := hw3.ne x3
  have ne5 := hw3.ne hx3
  simp only [go_sem, ObA, y3, x3, hx3, ne3, ne4, ne5]
  have bb := But.fresh (S := fun _ => False) hw ((((b12.trans b3).trans b4).any _).trans (But.put (S := fun p => False ∨ M.next.num ≤ p.num) (p := M.next) _ (.inr (Nat.le_refl _)) (.cells [.int 3 0, .int 3 0] false)))
  first | exact bb | exact ⟨rfl, bb⟩

theorem find_ok (F : MeT tbl) {n c : Int} (hS : StrIs M hp sp mp (some n)) (hH : HeapIs M hp P G) (ho : G.objs n = some (gcO c)) (hn : (kindOf 3).wrap ((kindOf 2).wrap n) = n) (hc : c ≠ 0) :
    CallW tbl 114 (.cons (.ptr sp 0) (.cons (.str 4 1667719007) .nil)) M fun r M' => r = .ret (.tuple (.cons (VlA ⟨5, n⟩) (.cons (.bool true) .nil))) ∧ But (fun _ => False) M M' := by
  refine CallW.wf fun hw => ?_
  refine CallW.intro F.h114 rfl (fr := .nod (.val .leaf (.ptr sp 0) .leaf) (.val .leaf (.str 4 1667719007) .leaf)) rfl ?_
  have b1 := But.new (S := fun _ => False) hw (.cells [.str 4 1667719007] false)
  have w1 := hw.new (.cells [.str 4 1667719007] false)
  have b2 := But.new (S := fun _ => False) w1 (.cells [.int 3 0, .int 3 0] false)
  have w2 := w1.new (.cells [.int 3 0, .int 3 0] false)
  have b3 := But.fill w2 (.cells [.nilfunc] false) (.cells [.func (.func 141) (.cons (.ptr sp 0) .nil) .nil] false)
  have w3 := w2.fill (.cells [.nilfunc] false) (.cells [.func (.func 141) (.cons (.ptr sp 0) .nil) .nil] false)
  have x1 : (M.new (.cells [.str 4 1667719007] false)).get M.next = some (.cells [.str 4 1667719007] false) := by simp only [go_sem]
  have x2 : ((M.new (.cells [.str 4 1667719007] false)).new (.cells [.int 3 0, .int 3 0] false)).get M.next.succ = some (.cells [.int 3 0, .int 3 0] false) := by simp only [go_sem]
  have nx1 : (M.new (.cells [.str 4 1667719007] false)).next = M.next.succ := rfl
  have nx2 : ((M.new (.cells [.str 4 1667719007] false)).new (.cells [.int 3 0, .int 3 0] false)).next = M.next.succ.succ := rfl
  have x3 : ((((M.new (.cells [.str 4 1667719007] false)).new (.cells [.int 3 0, .int 3 0] false)).new (.cells [.nilfunc] false)).put M.next.succ.succ (.cells [.func (.func 141) (.cons (.ptr sp 0) .nil) .nil] false)).get M.next.succ.succ = some (.cells [.func (.func 141) (.cons (.ptr sp 0) .nil) .nil] false) := by simp [Mem.put]
  rw [nx2] at b3 w3
  have y1 := b3.get _ _ id (b2.get _ _ id x1)
  have y2 := b3.get _ _ id x2
  have b13 := (b1.trans b2).trans b3
  have s1 := hS.1
  have s2 := hS.2
  have ne1 := hw.ne s1
  have ne2 := w1.ne (b1.get _ _ id s1)
  have ne3 := w2.ne ((b1.trans b2).get _ _ id s1)
  have me1 := hw.ne s2
  have me2 := w1.ne (b1.get _ _ id s2)
  have me3 := w2.ne ((b1.trans b2).get _ _ id s2)
  rw [nx1] at ne2 me2
  rw [nx2] at ne3 me3
  have ok1 : okKey (.leaf .str) (.str 4 1667719007) = true := by simp [okKey, eqKey, eqLeaf]
  have fi1 : (gcM n).find (.leaf .str) (.str 4 1667719007) = some (some (.int 3 n)) := by simp [gcM, ME.find, eqKey, eqLeaf]
  simp only [go_sem, cf114, s1, s2, ne1, ne2, ne3, me1, me2, me3, ok1, fi1]
  generalize hM3 : (((M.new (.cells [.str 4 1667719007] false)).new (.cells [.int 3 0, .int 3 0] false)).new (.cells [.nilfunc] false)).put M.next.succ.succ (.cells [.func (.func 141) (.cons (.ptr sp 0) .nil) .nil] false) = M3 at *
  refine (held_ok F (b13.get _ _ id s1) x3 y1 (hH.quiet b13) ho hn hc).use ?_
  rintro r M4 hw4 ⟨rfl, b4⟩
  have z2 := b4.get _ _ id y2
  simp only [go_sem, VlA, z2]
  have bb := But.fresh (S := fun _ => False) hw (((b13.trans b4).any _).trans (But.put (S := fun p => False ∨ M.next.num ≤ p.num) (p := M.next.succ) _ (.inr (by rw [Pos.num_succ]; omega)) (.cells [.int 3 5, .int 3 n] false)))
  first | exact bb | exact ⟨rfl, bb⟩

theorem find_no (F : MeT tbl) (hS : StrIs M hp sp mp none) (hH : HeapIs M hp P G) (ho : G.objs 0 = none) :
    CallW tbl 114 (.cons (.ptr sp 0) (.cons (.str 4 1667719007) .nil)) M fun r M' => r = .ret (.tuple (.cons (VlA ⟨0, 0⟩) (.cons (.bool false) .nil))) ∧ But (fun _ => False) M M' := by
  refine CallW.wf fun hw => ?_
  refine CallW.intro F.h114 rfl (fr := .nod (.val .leaf (.ptr sp 0) .leaf) (.val .leaf (.str 4 1667719007) .leaf)) rfl ?_
  have b1 := But.new (S := fun _ => False) hw (.cells [.str 4 1667719007] false)
  have w1 := hw.new (.cells [.str 4 1667719007] false)
  have b2 := But.new (S := fun _ => False) w1 (.cells [.int 3 0, .int 3 0] false)
  have w2 := w1.new (.cells [.int 3 0, .int 3 0] false)
  have b3 := But.fill w2 (.cells [.nilfunc] false) (.cells [.func (.func 141) (.cons (.ptr sp 0) .nil) .nil] false)
  have w3 := w2.fill (.cells [.nilfunc] false) (.cells [.func (.func 141) (.cons (.ptr sp 0) .nil) .nil] false)
  have x1 : (M.new (.cells [.str 4 1667719007] false)).get M.next = some (.cells [.str 4 1667719007] false) := by simp only [go_sem]
  have x2 : ((M.new (.cells [.str 4 1667719007] false)).new (.cells [.int 3 0, .int 3 0] false)).get M.next.succ = some (.cells [.int 3 0, .int 3 0] false) := by simp only [go_sem]
  have nx1 : (M.new (.cells [.str 4 1667719007] false)).next = M.next.succ := rfl
  have nx2 : ((M.new (.cells [.str 4 1667719007] false)).new (.cells [.int 3 0, .int 3 0] false)).next = M.next.succ.succ := rfl
  have x3 : ((((M.new (.cells [.str 4 1667719007] false)).new (.cells [.int 3 0, .int 3 0] false)).new (.cells [.nilfunc] false)).put M.next.succ.succ (.cells [.func (.func 141) (.cons (.ptr sp 0) .nil) .nil] false)).get M.next.succ.succ = some (.cells [.func (.func 141) (.cons (.ptr sp 0) .nil) .nil] false) := by simp [Mem.put]
  rw [nx2] at b3 w3
  have y1 := b3.get _ _ id (b2.get _ _ id x1)
  have y2 := b3.get _ _ id x2
  have b13 := (b1.trans b2).trans b3
  have s1 := hS.1
  have s2 := hS.2
  have ne1 := hw.ne s1
  have ne2 := w1.ne (b1.get _ _ id s1)
  have ne3 := w2.ne ((b1.trans b2).get _ _ id s1)
  have me1 := hw.ne s2
  have me2 := w1.ne (b1.get _ _ id s2)
  have me3 := w2.ne ((b1.trans b2).get _ _ id s2)
  rw [nx1] at ne2 me2
  rw [nx2] at ne3 me3
  have ok1 : okKey (.leaf .str) (.str 4 1667719007) = true := by simp [okKey, eqKey, eqLeaf]
  have fi1 : ME.nil.find (.leaf .str) (.str 4 1667719007) = some none := rfl
  simp only [go_sem, cf114, s1, s2, ne1, ne2, ne3, me1, me2, me3, ok1, fi1]
  generalize hM3 : (((M.new (.cells [.str 4 1667719007] false)).new (.cells [.int 3 0, .int 3 0] false)).new (.cells [.nilfunc] false)).put M.next.succ.succ (.cells [.func (.func 141) (.cons (.ptr sp 0) .nil) .nil] false) = M3 at *
  refine (held_no F (b13.get _ _ id s1) x3 y1 (hH.quiet b13) ho).use ?_
  rintro r M4 hw4 ⟨rfl, b4⟩
  have z2 := b4.get _ _ id y2
  simp only [go_sem, VlA, z2]
  have bb := But.fresh (S := fun _ => False) hw (((b13.trans b4).any _).trans (But.put (S := fun p => False ∨ M.next.num ≤ p.num) (p := M.next.succ) _ (.inr (by rw [Pos.num_succ]; omega)) (.cells [.int 3 0, .int 3 0] false)))
  first | exact bb | exact ⟨rfl, bb⟩
end
end Go.Proofs.Ythpnhdopheofcaa

end
section
namespace Go.Proofs.Ythpnhdopheofcaa
open Go.Dx
variable {tbl : Nat → Option CFunc}

section
variable {M : Mem} {hp : Pos} {P : Pos → Prop} {G : Hp} {sp mp : Pos}

/-- The text's first string. -/
theorem of_ok (F : MeT tbl) (hS : StrIs M hp sp mp none) (hsm : sp ≠ mp) (hH : HeapIs M hp P G) (hPs : P sp) (hPm : P mp) (ho : G.objs 0 = none) (hf : G.free = []) (hn : -(2 ^ 62) ≤ G.next ∧ G.next < 2 ^ 62) :
    CallW tbl 65 (.cons (.ptr sp 0) (.cons (.str 4 1667719007) .nil)) M fun r M' => r = .ret (VlA ⟨5, G.next⟩) ∧ HeapIs M' hp P { takeG G with objs := upd G.objs G.next (some (gcO 1)) } ∧ StrIs M' hp sp mp (some G.next) ∧ But (fun p => ¬ P p ∨ p = mp) M M' := by
  refine CallW.wf fun hw => ?_
  refine CallW.intro F.h65 rfl (fr := .nod (.val .leaf (.ptr sp 0) .leaf) (.val .leaf (.str 4 1667719007) .leaf)) rfl ?_
  have b1 := But.new (S := fun _ => False) hw (.cells [.int 3 0, .int 3 0] false)
  have w1 := hw.new (.cells [.int 3 0, .int 3 0] false)
  have x1 : (M.new (.cells [.int 3 0, .int 3 0] false)).get M.next = some (.cells [.int 3 0, .int 3 0] false) := by simp only [go_sem]
  have hH1 := hH.more hw (.cells [.int 3 0, .int 3 0] false)
  have hS1 := hS.but b1 id id
  simp only [go_sem, cf65]
  generalize hM1 : M.new (.cells [.int 3 0, .int 3 0] false) = M1 at *
  refine (find_no F hS1 hH1 ho).use ?_
  rintro r M2 hw2 ⟨rfl, b2⟩
  have x2 := b2.get _ _ id x1
  have b3 := But.fill hw2 (.cells [.int 3 0, .int 3 0] false) (.cells [.int 3 0, .int 3 0] false)
  have b23 := b2.trans b3
  have hS3 := hS1.but b23 id id
  have x3 := b23.get _ _ id x1
  have w3 := hw2.fill (.cells [.int 3 0, .int 3 0] false) (.cells [.int 3 0, .int 3 0] false)
  have s2 := (hS1.but b2 id id).1
  have ne2 := hw2.ne s2
  simp only [go_sem, VlA, s2, ne2]
  generalize hM3 : (M2.new (.cells [.int 3 0, .int 3 0] false)).put M2.next (.cells [.int 3 0, .int 3 0] false) = M3 at *
  refine (make_str F.h48 F.h99 F.h130 (tl := 4) (tn := 1667719007) (by decide) (hH1.quiet b23) hf hn).use ?_
  rintro r M4 hw4 ⟨rfl, hH4, b4⟩
  have x4 := b4.get _ _ (fun h => h (.inr rfl)) x3
  have hS4 := hS3.but b4 (fun h => h (.inl hPs)) (fun h => h (.inl hPm))
  have s4 := hS4.1
  have m4 := hS4.2
  have ne4 := hw4.ne s4
  have me4 := hw4.ne m4
  have xe4 := hw4.ne x4
  have b5 := But.fill hw4 (.cells [.int 3 0, .int 3 0] false) (.cells [.int 3 5, .int 3 G.next] false)
  have ok1 : okKey (.leaf .str) (.str 4 1667719007) = true := by simp [okKey, eqKey, eqLeaf]
  have nm : (M.next = mp) = False := by
    refine eq_false fun e => ?_
    have := hw _ _ hS.2
    rw [← e] at this
    omega
  have me4' := hw4.ne' m4
  simp only [go_sem, VlA, s4, ne4, m4, me4, me4', x4, xe4, ok1, ME.put, nm]
  have ns : (sp = M.next) = False := hw.ne hS.1
  have bm : But (fun p => p = mp) ((M4.new (.cells [.int 3 0, .int 3 0] false)).put M4.next (.cells [.int 3 5, .int 3 G.next] false)) (((M4.new (.cells [.int 3 0, .int 3 0] false)).put M4.next (.cells [.int 3 5, .int 3 G.next] false)).put mp (.map (gcM G.next) 1)) := But.put (S := fun p => p = mp) (p := mp) _ rfl _
  have bx : But (fun p => p = M.next) (((M4.new (.cells [.int 3 0, .int 3 0] false)).put M4.next (.cells [.int 3 5, .int 3 G.next] false)).put mp (.map (gcM G.next) 1)) ((((M4.new (.cells [.int 3 0, .int 3 0] false)).put M4.next (.cells [.int 3 5, .int 3 G.next] false)).put mp (.map (gcM G.next) 1)).put M.next (.cells [.int 3 5, .int 3 G.next] false)) := But.put (S := fun p => p = M.next) (p := M.next) _ rfl _
  have hH5 := (((hH4.quiet b5).frame (bm.mono fun p e => .inl (by rw [e]; exact hPm))).frame (bx.mono fun p e => .inr e)).less (Q := P) fun p hp => .inl hp
  have hlo : ∀ p, P p → p.num < M.next.num := fun p hp => by obtain ⟨_, _, _, h2, _⟩ := hH; exact (h2 p hp).2
  have bb : But (fun p => ¬ P p ∨ p = mp) M ((((M4.new (.cells [.int 3 0, .int 3 0] false)).put M4.next (.cells [.int 3 5, .int 3 G.next] false)).put mp (.map (gcM G.next) 1)).put M.next (.cells [.int 3 5, .int 3 G.next] false)) :=
    ((((b1.trans b23).any _).trans (b4.mono fun p hn => .inl fun hp => hn (.inl hp))).trans ((b5.any _).trans (bm.mono fun p e => .inr e))).trans (bx.mono fun p e => .inl fun hp => by have := hlo p hp; rw [e] at this; omega)
  have hS5 : StrIs ((((M4.new (.cells [.int 3 0, .int 3 0] false)).put M4.next (.cells [.int 3 5, .int 3 G.next] false)).put mp (.map (gcM G.next) 1)).put M.next (.cells [.int 3 5, .int 3 G.next] false)) hp sp mp (some G.next) := by
    refine ⟨bx.get _ _ (fun e => by rw [ns] at e; exact e) (bm.get _ _ hsm (b5.get _ _ id s4)), bx.get _ _ (fun e => by have := hw _ _ hS.2; rw [e] at this; omega) ?_⟩
    simp [Mem.put]
  first | exact ⟨hH5, hS5, bb⟩ | exact ⟨rfl, hH5, hS5, bb⟩
end
end Go.Proofs.Ythpnhdopheofcaa

end
section
namespace Go.Proofs.Ythpnhdopheofcaa
open Go.Dx
variable {tbl : Nat → Option CFunc}

section
variable {M : Mem} {hp : Pos} {P : Pos → Prop} {G : Hp} {sp mp : Pos}

theorem mnull_ok (F : MeT tbl) : CallW tbl 109 .nil M fun r M' => r = .ret (VlA ⟨1, 0⟩) ∧ But (fun _ => False) M M' := by
  refine CallW.wf fun hw => ?_
  refine CallW.intro F.h109 rfl (fr := .leaf) rfl ?_
  simp only [go_sem, cf109, VlA]
  have bf := But.fill hw (.cells [.int 3 0, .int 3 0] false) (.cells [.int 3 1, .int 3 0] false)
  first | exact bf | exact ⟨rfl, bf⟩
theorem lnull_ok (F : MeT tbl) : CallW tbl 59 .nil M fun r M' => r = .ret (VlA ⟨1, 0⟩) ∧ But (fun _ => False) M M' := by
  refine CallW.wf fun hw => ?_
  refine CallW.intro F.h59 rfl (fr := .leaf) rfl ?_
  simp only [go_sem, cf59, VlA]
  have bf := But.fill hw (.cells [.int 3 0, .int 3 0] false) (.cells [.int 3 1, .int 3 0] false)
  first | exact bf | exact ⟨rfl, bf⟩
theorem in_ok (F : MeT tbl) (n : Int) : CallW tbl 58 (.cons (.int 3 n) .nil) M fun r M' => r = .ret (VlA ⟨3, n⟩) ∧ But (fun _ => False) M M' := by
  refine CallW.wf fun hw => ?_
  refine CallW.intro F.h58 rfl (fr := .nod (.val .leaf (.int 3 n) .leaf) .leaf) rfl ?_
  simp only [go_sem, cf58, VlA]
  have bf := But.fill hw (.cells [.int 3 0, .int 3 0] false) (.cells [.int 3 3, .int 3 n] false)
  first | exact bf | exact ⟨rfl, bf⟩

/-- The world of an event: the heap has the text's object. -/
structure EvW (M : Mem) (hp sp mp : Pos) (P : Pos → Prop) (G : Hp) (n : Int) : Prop where
  st : StrIs M hp sp mp (some n)
  hp_ : HeapIs M hp P G
  ob : ∃ c, G.objs n = some (gcO c) ∧ c ≠ 0
  nn : (kindOf 3).wrap ((kindOf 2).wrap n) = n
  low : Low G
theorem EvW.quiet {M' : Mem} {n : Int} (h : EvW M hp sp mp P G n) (hb : But (fun _ => False) M M') : EvW M' hp sp mp P G n :=
  ⟨h.st.but hb id id, h.hp_.quiet hb, h.ob, h.nn, h.low⟩

/-- What a metatable has under the text. -/
def evV (G : Hp) (n : Int) (m V : Vl) : Prop := (m = ⟨1, 0⟩ ∧ V = ⟨1, 0⟩) ∨ ∃ Tm, m.k = 6 ∧ HasT G m.n Tm ∧ V = Tm.get ⟨5, n⟩

theorem under_ok (F : MeT tbl) {n : Int} {m V : Vl} {sb hb mb : Pos} (E : EvW M hp sp mp P G n) (hV : evV G n m V) (xs : M.get sb = some (.cells [.ptr sp 0] false)) (xh : M.get hb = some (.cells [.ptr hp 0] false)) (xm : M.get mb = some (.cells [.int 3 m.k, .int 3 m.n] false)) :
    CallW tbl 139 (.cons (.str 4 1667719007) (.cons (.ptr sb 0) (.cons (.ptr hb 0) (.cons (.ptr mb 0) .nil)))) M fun r M' => r = .ret (VlA V) ∧ But (fun _ => False) M M' := by
  refine CallW.wf fun hw => ?_
  obtain ⟨mk, mn⟩ := m
  refine CallW.intro F.h139 rfl (fr := .nod (.val (.val .leaf (.ptr hb 0) .leaf) (.str 4 1667719007) .leaf) (.val (.val .leaf (.ptr mb 0) .leaf) (.ptr sb 0) .leaf)) rfl ?_
  have b1 := But.new (S := fun _ => False) hw (.cells [.int 3 0, .int 3 0] false)
  have w1 := hw.new (.cells [.int 3 0, .int 3 0] false)
  have x1 : (M.new (.cells [.int 3 0, .int 3 0] false)).get M.next = some (.cells [.int 3 0, .int 3 0] false) := by simp only [go_sem]
  have ns := hw.ne xs
  have nh := hw.ne xh
  have nm := hw.ne xm
  have ys := b1.get _ _ id xs
  have yh := b1.get _ _ id xh
  have ym := b1.get _ _ id xm
  simp only [go_sem, cf139, xs, xh, xm, ns, nh, nm]
  generalize hM1 : M.new (.cells [.int 3 0, .int 3 0] false) = M1 at *
  have E1 := E.quiet b1
  obtain ⟨c, oc, cz⟩ := E.ob
  refine (find_ok F E1.st E1.hp_ oc E.nn cz).use ?_
  rintro r M2 hw2 ⟨rfl, b2⟩
  have b3 := But.fill hw2 (.cells [.int 3 0, .int 3 0] false) (.cells [.int 3 5, .int 3 n] false)
  have w3 := hw2.fill (.cells [.int 3 0, .int 3 0] false) (.cells [.int 3 5, .int 3 n] false)
  have x3 : ((M2.new (.cells [.int 3 0, .int 3 0] false)).put M2.next (.cells [.int 3 5, .int 3 n] false)).get M2.next = some (.cells [.int 3 5, .int 3 n] false) := by simp [Mem.put]
  have zh := b2.get _ _ id yh
  have zm := b2.get _ _ id ym
  have z1 := b2.get _ _ id x1
  have nh2 := hw2.ne zh
  have nm2 := hw2.ne zm
  have n12 := hw2.ne z1
  have yx := b3.get _ _ id z1
  simp only [go_sem, VlA, zh, zm, nh2, nm2, x3]
  generalize hM3 : (M2.new (.cells [.int 3 0, .int 3 0] false)).put M2.next (.cells [.int 3 5, .int 3 n] false) = M3 at *
  have E3 := E1.quiet (b2.trans b3)
  have hget : CallW tbl 45 (.cons (.ptr hp 0) (.cons (VlA ⟨mk, mn⟩) (.cons (VlA ⟨5, n⟩) .nil))) M3 fun r M' => (∃ v e, r = .ret (.tuple (.cons (VlA v) (.cons (.int 3 e) .nil))) ∧ ((e = 0 ∧ v = V) ∨ (e = 7 ∧ V = ⟨1, 0⟩))) ∧ But (fun _ => False) M3 M' := by
    rcases hV with ⟨h1, h2⟩ | ⟨Tm, h1, h2, h3⟩
    · rw [h1]
      refine (get_no F.tb (kv := ⟨5, n⟩) E3.hp_ E.low (noT_nil G)).use ?_
      rintro r M' hw' ⟨rfl, b'⟩
      exact ⟨⟨_, _, rfl, .inr ⟨rfl, h2⟩⟩, b'⟩
    · simp only at h1 h2
      subst h1
      refine (get_ok F.toFnT ⟨5, n⟩ E3.hp_ h2).use ?_
      rintro r M' hw' ⟨rfl, b'⟩
      exact ⟨⟨_, _, rfl, .inl ⟨rfl, h3.symm⟩⟩, b'⟩
  refine hget.use ?_
  rintro r M4 hw4 ⟨⟨v, e, rfl, hve⟩, b4⟩
  obtain ⟨vk, vn⟩ := v
  have x4 := b4.get _ _ id yx
  have n4 := hw4.ne x4
  have b5 := But.fill hw4 (.cells [.int 3 0, .int 3 0] false) (.cells [.int 3 vk, .int 3 vn] false)
  have w5 := hw4.fill (.cells [.int 3 0, .int 3 0] false) (.cells [.int 3 vk, .int 3 vn] false)
  have x5 := b5.get _ _ id x4
  have b15 := ((b1.trans (b2.trans b3)).trans b4).trans b5
  rcases hve with ⟨rfl, rfl⟩ | ⟨rfl, rfl⟩
  · simp only [go_sem, VlA, x4, n4]
    have bb := But.fresh (S := fun _ => False) hw ((b15.any _).trans (But.put (S := fun p => False ∨ M.next.num ≤ p.num) (p := M.next) _ (.inr (Nat.le_refl _)) (.cells [.int 3 vk, .int 3 vn] false)))
    first | exact bb | exact ⟨rfl, bb⟩
  · simp only [go_sem, VlA, x4, n4]
    generalize hM5 : (M4.new (.cells [.int 3 0, .int 3 0] false)).put M4.next (.cells [.int 3 vk, .int 3 vn] false) = M5 at *
    refine (mnull_ok F).use ?_
    rintro r M6 hw6 ⟨rfl, b6⟩
    have x6 := b6.get _ _ id x5
    simp only [go_sem, VlA, x6]
    have bb := But.fresh (S := fun _ => False) hw (((b15.trans b6).any _).trans (But.put (S := fun p => False ∨ M.next.num ≤ p.num) (p := M.next) _ (.inr (Nat.le_refl _)) (.cells [.int 3 1, .int 3 0] false)))
    first | exact bb | exact ⟨rfl, bb⟩
end
end Go.Proofs.Ythpnhdopheofcaa

end
section
namespace Go.Proofs.Ythpnhdopheofcaa
open Go.Dx
variable {tbl : Nat → Option CFunc}

section
variable {M : Mem} {hp : Pos} {P : Pos → Prop} {G : Hp} {sp mp : Pos}

theorem event_ok (F : MeT tbl) {n tn : Int} {T : Tb} {V : Vl} (E : EvW M hp sp mp P G n) (hT : HasT G tn T) (hV : evV G n T.met V) :
    CallW tbl 112 (.cons (.ptr hp 0) (.cons (.ptr sp 0) (.cons (VlA ⟨6, tn⟩) (.cons (.str 4 1667719007) .nil)))) M fun r M' => r = .ret (.tuple (.cons (VlA V) (.cons (.bool true) .nil))) ∧ But (fun _ => False) M M' := by
  refine CallW.wf fun hw => ?_
  refine CallW.intro F.h112 rfl (fr := .nod (.val (.val .leaf (VlA ⟨6, tn⟩) .leaf) (.ptr hp 0) .leaf) (.val (.val .leaf (.str 4 1667719007) .leaf) (.ptr sp 0) .leaf)) rfl ?_
  have b1 := But.new (S := fun _ => False) hw (.cells [.ptr hp 0] false)
  have w1 := hw.new (.cells [.ptr hp 0] false)
  have b2 := But.new (S := fun _ => False) w1 (.cells [.ptr sp 0] false)
  have w2 := w1.new (.cells [.ptr sp 0] false)
  have b3 := But.new (S := fun _ => False) w2 (.cells [.int 3 6, .int 3 tn] false)
  have w3 := w2.new (.cells [.int 3 6, .int 3 tn] false)
  have b4 := But.new (S := fun _ => False) w3 (.cells [.int 3 0, .int 3 0] false)
  have w4 := w3.new (.cells [.int 3 0, .int 3 0] false)
  have x1 : (M.new (.cells [.ptr hp 0] false)).get M.next = some (.cells [.ptr hp 0] false) := by simp only [go_sem]
  have x2 : ((M.new (.cells [.ptr hp 0] false)).new (.cells [.ptr sp 0] false)).get M.next.succ = some (.cells [.ptr sp 0] false) := by simp only [go_sem]
  have x4 : ((((M.new (.cells [.ptr hp 0] false)).new (.cells [.ptr sp 0] false)).new (.cells [.int 3 6, .int 3 tn] false)).new (.cells [.int 3 0, .int 3 0] false)).get M.next.succ.succ.succ = some (.cells [.int 3 0, .int 3 0] false) := by simp only [go_sem]
  have y1 := ((b2.trans b3).trans b4).get _ _ id x1
  have y2 := (b3.trans b4).get _ _ id x2
  have b14 := ((b1.trans b2).trans b3).trans b4
  simp only [go_sem, cf112, VlA]
  generalize hM1 : (((M.new (.cells [.ptr hp 0] false)).new (.cells [.ptr sp 0] false)).new (.cells [.int 3 6, .int 3 tn] false)).new (.cells [.int 3 0, .int 3 0] false) = M1 at *
  refine (meta_ok F (hp := hp) (P := P) (E.hp_.quiet b14) hT).use ?_
  rintro r M2 hw2 ⟨rfl, b5⟩
  have z1 := b5.get _ _ id y1
  have z2 := b5.get _ _ id y2
  have z4 := b5.get _ _ id x4
  have n1 := hw2.ne z1
  have n2 := hw2.ne z2
  have n4 := hw2.ne z4
  generalize hmm : T.met = m at *
  obtain ⟨mk, mn⟩ := m
  have b6 := But.fill hw2 (.cells [.int 3 0, .int 3 0] false) (.cells [.int 3 mk, .int 3 mn] false)
  have xm : ((M2.new (.cells [.int 3 0, .int 3 0] false)).put M2.next (.cells [.int 3 mk, .int 3 mn] false)).get M2.next = some (.cells [.int 3 mk, .int 3 mn] false) := by simp [Mem.put]
  have v1 := b6.get _ _ id z1
  have v2 := b6.get _ _ id z2
  have v4 := b6.get _ _ id z4
  have b16 := (b14.trans b5).trans b6
  simp only [go_sem, VlA]
  generalize hM3 : (M2.new (.cells [.int 3 0, .int 3 0] false)).put M2.next (.cells [.int 3 mk, .int 3 mn] false) = M3 at *
  refine (under_ok F (m := ⟨mk, mn⟩) (E.quiet b16) hV v2 v1 xm).use ?_
  rintro r M4 hw4 ⟨rfl, b7⟩
  obtain ⟨vk, vn⟩ := V
  have u4 := b7.get _ _ id v4
  simp only [go_sem, VlA, u4]
  have nn : M.next.num ≤ M.next.succ.succ.succ.num := by simp only [Pos.num_succ]; omega
  have bb := But.fresh (S := fun _ => False) hw (((b16.trans b7).any _).trans (But.put (S := fun p => False ∨ M.next.num ≤ p.num) (p := M.next.succ.succ.succ) _ (.inr nn) (.cells [.int 3 vk, .int 3 vn] false)))
  first | exact bb | exact ⟨rfl, bb⟩

theorem Event_ok (F : MeT tbl) {n tn : Int} {T : Tb} {V : Vl} (E : EvW M hp sp mp P G n) (hT : HasT G tn T) (hV : evV G n T.met V) :
    CallW tbl 63 (.cons (.ptr hp 0) (.cons (.ptr sp 0) (.cons (VlA ⟨6, tn⟩) (.cons (.str 4 1667719007) .nil)))) M fun r M' => r = .ret (VlA V) ∧ But (fun _ => False) M M' := by
  refine CallW.wf fun hw => ?_
  refine CallW.intro F.h63 rfl (fr := .nod (.val (.val .leaf (VlA ⟨6, tn⟩) .leaf) (.ptr hp 0) .leaf) (.val (.val .leaf (.str 4 1667719007) .leaf) (.ptr sp 0) .leaf)) rfl ?_
  have b1 := But.new (S := fun _ => False) hw (.cells [.int 3 6, .int 3 tn] false)
  have w1 := hw.new (.cells [.int 3 6, .int 3 tn] false)
  have b2 := But.new (S := fun _ => False) w1 (.cells [.int 3 0, .int 3 0] false)
  have x2 : ((M.new (.cells [.int 3 6, .int 3 tn] false)).new (.cells [.int 3 0, .int 3 0] false)).get M.next.succ = some (.cells [.int 3 0, .int 3 0] false) := by simp only [go_sem]
  have b12 := b1.trans b2
  simp only [go_sem, cf63, VlA]
  generalize hM1 : (M.new (.cells [.int 3 6, .int 3 tn] false)).new (.cells [.int 3 0, .int 3 0] false) = M1 at *
  refine (event_ok F (E.quiet b12) hT hV).use ?_
  rintro r M2 hw2 ⟨rfl, b3⟩
  obtain ⟨vk, vn⟩ := V
  have z2 := b3.get _ _ id x2
  have n2 := hw2.ne z2
  have b4 := But.fill hw2 (.cells [.int 3 0, .int 3 0] false) (.cells [.int 3 vk, .int 3 vn] false)
  simp only [go_sem, VlA, z2, n2]
  have bb := But.fresh (S := fun _ => False) hw ((((b12.trans b3).trans b4).any _).trans (But.put (S := fun p => False ∨ M.next.num ≤ p.num) (p := M.next.succ) _ (.inr (by rw [Pos.num_succ]; omega)) (.cells [.int 3 vk, .int 3 vn] false)))
  first | exact bb | exact ⟨rfl, bb⟩
end
end Go.Proofs.Ythpnhdopheofcaa

end
section
namespace Go.Proofs.Ythpnhdopheofcaa
open Go.Dx
variable {tbl : Nat → Option CFunc}

def setG (G : Hp) (tn : Int) (T : Tb) (m V : Vl) : Hp := if V = ⟨1, 0⟩ then dropG (swapG G tn 0 m) T.met else markG (dropG (swapG G tn 0 m) T.met) tn

section
variable {M : Mem} {hp : Pos} {P : Pos → Prop} {G : Hp} {sp mp : Pos}

theorem set_ok (F : MeT tbl) {n tn : Int} {T T1 : Tb} {m V : Vl} (hS : StrIs M hp sp mp (some n)) (hH : HeapIs M hp P G) (hPs : P sp) (hPm : P mp) (hT : HasT G tn T) (hm : m = ⟨1, 0⟩ ∨ ∃ Tm, m.k = 6 ∧ HasT G m.n Tm) (hth : thereV G m = true)
    (hd : refV T.met = true → ∃ o1, (swapG G tn 0 m).objs T.met.n = some o1 ∧ o1.kind = T.met.k ∧ o1.kind ≠ 5 ∧ 2 ≤ o1.count ∧ o1.count < 2 ^ 62) (hbl : G.buffer.length < 2 ^ 30)
    (hob : ∃ c, (dropG (swapG G tn 0 m) T.met).objs n = some (gcO c) ∧ c ≠ 0) (hn : (kindOf 3).wrap ((kindOf 2).wrap n) = n) (hlow : Low (dropG (swapG G tn 0 m) T.met)) (hT1 : HasT (dropG (swapG G tn 0 m) T.met) tn T1) (hV : evV (dropG (swapG G tn 0 m) T.met) n T1.met V)
    (hmk : 0 ≤ (dropG (swapG G tn 0 m) T.met).marks ∧ (dropG (swapG G tn 0 m) T.met).marks < 2 ^ 62) :
    CallW tbl 60 (.cons (.ptr hp 0) (.cons (.ptr sp 0) (.cons (VlA ⟨6, tn⟩) (.cons (VlA m) .nil)))) M fun r M' => r = .ret (.int 3 0) ∧ HeapIs M' hp P (setG G tn T m V) ∧ But (fun p => ¬ P p) M M' := by
  refine CallW.wf fun hw => ?_
  obtain ⟨mk, mn⟩ := m
  refine CallW.intro F.h60 rfl (fr := .nod (.val (.val .leaf (VlA ⟨6, tn⟩) .leaf) (.ptr hp 0) .leaf) (.val (.val .leaf (VlA ⟨mk, mn⟩) .leaf) (.ptr sp 0) .leaf)) rfl ?_
  have b1 := But.new (S := fun _ => False) hw (.cells [.int 3 6, .int 3 tn] false)
  have w1 := hw.new (.cells [.int 3 6, .int 3 tn] false)
  have b2 := But.new (S := fun _ => False) w1 (.cells [.int 3 mk, .int 3 mn] false)
  have w2 := w1.new (.cells [.int 3 mk, .int 3 mn] false)
  have x1 : (M.new (.cells [.int 3 6, .int 3 tn] false)).get M.next = some (.cells [.int 3 6, .int 3 tn] false) := by simp only [go_sem]
  have y1 := b2.get _ _ id x1
  have hH2 := (hH.more hw (.cells [.int 3 6, .int 3 tn] false)).quiet b2
  have b12 := b1.trans b2
  have hlo : ∀ p, P p → p.num < M.next.num := fun p hp => by obtain ⟨_, _, _, h2, _⟩ := hH; exact (h2 p hp).2
  have hS2 := hS.but b12 id id
  simp only [go_sem, cf60, VlA]
  generalize hM2 : (M.new (.cells [.int 3 6, .int 3 tn] false)).new (.cells [.int 3 mk, .int 3 mn] false) = M2 at *
  refine (setmeta_ok F (m := ⟨mk, mn⟩) hH2 hT hm hth hd hbl).use ?_
  rintro r M3 hw3 ⟨rfl, hH3, b3⟩
  have y3 := b3.get _ _ (fun h => h (.inr rfl)) y1
  have hS3 := hS2.but b3 (fun h => h (.inl hPs)) (fun h => h (.inl hPm))
  unfold setG
  generalize hG1 : dropG (swapG G tn 0 ⟨mk, mn⟩) T.met = G1 at *
  simp only [go_sem, y3]
  refine (Event_ok F (EvW.mk hS3 hH3 hob hn hlow) hT1 hV).use ?_
  rintro r M4 hw4 ⟨rfl, b4⟩
  simp only [go_sem]
  refine (mnull_ok F).use ?_
  rintro r M5 hw5 ⟨rfl, b5⟩
  have b45 := b4.trans b5
  have y5 := b45.get _ _ id y3
  have hH5 := (hH3.quiet b45).less (Q := P) fun p hp => .inl hp
  have bb : But (fun p => ¬ P p) M M5 := ((b12.any _).trans (b3.mono fun p hn hp => hn (.inl hp))).trans (b45.any _)
  obtain ⟨vk, vn⟩ := V
  obtain ⟨o, ho, _, _⟩ := hT1.obj
  by_cases hv : (⟨vk, vn⟩ : Vl) = ⟨1, 0⟩
  · rw [if_pos hv]
    cases hv
    simp only [go_sem, VlA]
    first | exact ⟨hH5, bb⟩ | exact ⟨rfl, hH5, bb⟩
  · rw [if_neg hv]
    by_cases hk : vk = 1
    · have hk2 : vn ≠ 0 := fun e => hv (by rw [hk, e])
      have g1 : (vk == 1) = true := by simp [hk]
      have g2 : (vn == 0) = false := by simp [hk2]
      simp only [go_sem, VlA, g1, g2, y5]
      refine (mark_ok F hH5 ho hmk).use ?_
      rintro r M6 hw6 ⟨⟨e6, rfl⟩, hH6, b6⟩
      simp only [go_sem]
      first | exact ⟨hH6, bb.trans b6⟩ | exact ⟨rfl, hH6, bb.trans b6⟩
    · have g1 : (vk == 1) = false := by simp [hk]
      have g3 : ((false && (vn == 0)) != true) = true := by simp
      simp only [go_sem, VlA, g1, g3, y5]
      refine (mark_ok F hH5 ho hmk).use ?_
      rintro r M6 hw6 ⟨⟨e6, rfl⟩, hH6, b6⟩
      simp only [go_sem]
      first | exact ⟨hH6, bb.trans b6⟩ | exact ⟨rfl, hH6, bb.trans b6⟩
end
end Go.Proofs.Ythpnhdopheofcaa

end
section
namespace Go.Proofs.Ythpnhdopheofcaa
open Go.Dx
variable {tbl : Nat → Option CFunc}

def T1 : Tb := ⟨⟨1, 0⟩, [], []⟩
def T2 : Tb := ⟨⟨1, 0⟩, [], [(⟨5, 3⟩, ⟨3, 1⟩)]⟩
def Tt (met : Vl) : Tb := ⟨met, [], []⟩
/-- Of the three metatables one. -/
def Met (m : Vl) : Prop := m = ⟨1, 0⟩ ∨ m = ⟨6, 1⟩ ∨ m = ⟨6, 2⟩
def keepG (G : Hp) (m : Vl) : Hp := if refV m = true then { G with objs := upd G.objs m.n ((G.objs m.n).map fun o => { o with count := o.count + 1 }) } else G
def valG (m : Vl) : Vl := if m = ⟨6, 2⟩ then ⟨3, 1⟩ else ⟨1, 0⟩

structure IW (G : Hp) (tn : Int) (met : Vl) (want mk : Int) (B : Nat) : Prop where
  fr : G.free = []
  nx : G.next = tn + 1
  tn4 : 4 ≤ tn ∧ tn ≤ 1000
  mks : G.marks = mk ∧ 0 ≤ mk ∧ mk ≤ B
  o1 : ∃ o, G.objs 1 = some o ∧ o.kind = 6 ∧ o.slots = T1.slots ∧ (if met = ⟨6, 1⟩ then 2 else 1) ≤ o.count ∧ o.count ≤ B + 1
  o2 : ∃ o, G.objs 2 = some o ∧ o.kind = 6 ∧ o.slots = T2.slots ∧ (if met = ⟨6, 2⟩ then 2 else 1) ≤ o.count ∧ o.count ≤ B + 1
  o3 : ∃ c, G.objs 3 = some (gcO c) ∧ c ≠ 0
  ot : ∃ o, G.objs tn = some o ∧ o.kind = 6 ∧ o.slots = (Tt met).slots ∧ o.mark = want
  bf : G.buffer.length ≤ B
  low : Low G
  met3 : Met met

theorem tb1 : TbOk T1 := ⟨by decide, .inl rfl, by decide, by decide, by decide, by decide⟩
theorem tb2 : TbOk T2 := by
  refine ⟨by decide, .inl rfl, ?_, by decide, by decide, by decide⟩
  intro v hv
  cases hv
theorem tbt {m : Vl} (h : Met m) : TbOk (Tt m) := by
  rcases h with rfl | rfl | rfl <;> exact ⟨by decide, by decide, (by intro v hv; cases hv), by decide, (by intro x hx; cases hx), by decide⟩
theorem may6 {n : Int} (h : 1 ≤ n ∧ n ≤ 1000) : mayV ⟨6, n⟩ = true := by
  have h1 : (1 : Int) ≤ n := h.1
  have h2 : n ≤ 2147483647 := by omega
  simp [mayV, h1, h2]
theorem ref6 {n : Int} (h : 1 ≤ n ∧ n ≤ 1000) : refV ⟨6, n⟩ = true := by simp [refV, may6 h]

/-- A round: the new metatable is kept and set, the old one dropped. -/
theorem round_law {G : Hp} {tn want mk : Int} {met m : Vl} {B : Nat} (h : IW G tn met want mk B) (hB : B ≤ 1000) (hm : Met m) :
    IW (setG (keepG G m) tn (Tt met) m (valG m)) tn m (if m = ⟨6, 2⟩ ∧ want = 0 then mk + 1 else want) (if m = ⟨6, 2⟩ ∧ want = 0 then mk + 1 else mk) (B + 1) := by
  obtain ⟨p1, p2, ⟨p3, p4⟩, ⟨p5, p6, p7⟩, ⟨o1, q1, q2, q3, q4, q5⟩, ⟨o2, r1, r2, r3, r4, r5⟩, ⟨c, s1, s2⟩, ⟨ot, t1, t2, t3, t4⟩, p8, p9, p10⟩ := h
  have n1 : tn ≠ 1 := by omega
  have n2 : tn ≠ 2 := by omega
  have n3 : tn ≠ 3 := by omega
  have n1' : (1 : Int) ≠ tn := by omega
  have n2' : (2 : Int) ≠ tn := by omega
  have n3' : (3 : Int) ≠ tn := by omega
  have e1 : refV ⟨6, 1⟩ = true := ref6 (by decide)
  have e2 : refV ⟨6, 2⟩ = true := ref6 (by decide)
  have e0 : refV ⟨1, 0⟩ = false := by decide
  rcases hm with rfl | rfl | rfl <;> rcases p10 with rfl | rfl | rfl <;>
    by_cases hw : want = 0 <;>
    (refine ⟨?_, ?_, ⟨p3, p4⟩, ?_, ?_, ?_, ?_, ?_, ?_, ?_, ?_⟩) <;>
    simp_all [setG, keepG, swapG, dropG, markG, valG, upd, Tt, Tb.slots, flatP, Met]
  all_goals first
    | omega
    | exact ⟨_, rfl, s2⟩
    | (split <;> (try simp only [List.length_append, List.length_cons, List.length_nil]) <;> omega)
    | (intro n' o' ho'
       simp only [upd] at ho'
       repeat' split at ho'
       all_goals first
         | exact p9 _ _ ho'
         | (cases ho'; simp [most, T1, T2]; done)
         | (cases ho'; simp_all [most, T1, T2]))

theorem IW.t1 {G : Hp} {tn want mk : Int} {met : Vl} {B : Nat} (h : IW G tn met want mk B) : HasT G 1 T1 :=
  ⟨may6 (by decide), by obtain ⟨o, q1, q2, q3, _⟩ := h.o1; exact ⟨o, q1, q2, q3⟩, tb1⟩
theorem IW.t2 {G : Hp} {tn want mk : Int} {met : Vl} {B : Nat} (h : IW G tn met want mk B) : HasT G 2 T2 :=
  ⟨may6 (by decide), by obtain ⟨o, q1, q2, q3, _⟩ := h.o2; exact ⟨o, q1, q2, q3⟩, tb2⟩
theorem IW.tt {G : Hp} {tn want mk : Int} {met : Vl} {B : Nat} (h : IW G tn met want mk B) : HasT G tn (Tt met) :=
  ⟨may6 ⟨by have := h.tn4; omega, h.tn4.2⟩, by obtain ⟨o, q1, q2, q3, _⟩ := h.ot; exact ⟨o, q1, q2, q3⟩, tbt h.met3⟩
theorem IW.ev {G : Hp} {tn want mk : Int} {met m : Vl} {B : Nat} (h : IW G tn met want mk B) (hm : Met m) : evV G 3 m (valG m) := by
  rcases hm with rfl | rfl | rfl
  · exact .inl ⟨rfl, rfl⟩
  · exact .inr ⟨T1, rfl, h.t1, by decide⟩
  · exact .inr ⟨T2, rfl, h.t2, by decide⟩

/-- The same, without a mark. -/
theorem round_law' {G : Hp} {tn want mk : Int} {met m : Vl} {B : Nat} (h : IW G tn met want mk B) (hB : B ≤ 1000) (hm : Met m) :
    IW (dropG (swapG (keepG G m) tn 0 m) met) tn m want mk (B + 1) := by
  obtain ⟨p1, p2, ⟨p3, p4⟩, ⟨p5, p6, p7⟩, ⟨o1, q1, q2, q3, q4, q5⟩, ⟨o2, r1, r2, r3, r4, r5⟩, ⟨c, s1, s2⟩, ⟨ot, t1, t2, t3, t4⟩, p8, p9, p10⟩ := h
  have n1 : tn ≠ 1 := by omega
  have n2 : tn ≠ 2 := by omega
  have n3 : tn ≠ 3 := by omega
  have n1' : (1 : Int) ≠ tn := by omega
  have n2' : (2 : Int) ≠ tn := by omega
  have n3' : (3 : Int) ≠ tn := by omega
  have e1 : refV ⟨6, 1⟩ = true := ref6 (by decide)
  have e2 : refV ⟨6, 2⟩ = true := ref6 (by decide)
  have e0 : refV ⟨1, 0⟩ = false := by decide
  rcases hm with rfl | rfl | rfl <;> rcases p10 with rfl | rfl | rfl <;>
    (refine ⟨?_, ?_, ⟨p3, p4⟩, ?_, ?_, ?_, ?_, ?_, ?_, ?_, ?_⟩) <;>
    simp_all [setG, keepG, swapG, dropG, markG, valG, upd, Tt, Tb.slots, flatP, Met]
  all_goals first
    | omega
    | exact ⟨_, rfl, s2⟩
    | (split <;> (try simp only [List.length_append, List.length_cons, List.length_nil]) <;> omega)
    | (intro n' o' ho'
       simp only [upd] at ho'
       repeat' split at ho'
       all_goals first
         | exact p9 _ _ ho'
         | (cases ho'; simp [most, T1, T2]; done)
         | (cases ho'; simp_all [most, T1, T2]))

/-- What Set asks of the heap in which the new metatable is kept. -/
theorem round_pre {G : Hp} {tn want mk : Int} {met m : Vl} {B : Nat} (h : IW G tn met want mk B) (hB : B ≤ 1000) (hm : Met m) :
    HasT (keepG G m) tn (Tt met) ∧ (m = ⟨1, 0⟩ ∨ ∃ Tm, m.k = 6 ∧ HasT (keepG G m) m.n Tm) ∧ thereV (keepG G m) m = true ∧
    (refV met = true → ∃ o1, (swapG (keepG G m) tn 0 m).objs met.n = some o1 ∧ o1.kind = met.k ∧ o1.kind ≠ 5 ∧ 2 ≤ o1.count ∧ o1.count < 2 ^ 62) ∧ (keepG G m).buffer.length < 2 ^ 30 := by
  have hmt := h.met3
  have ht1 := h.t1
  have ht2 := h.t2
  have htt := h.tt
  obtain ⟨p1, p2, ⟨p3, p4⟩, ⟨p5, p6, p7⟩, ⟨o1, q1, q2, q3, q4, q5⟩, ⟨o2, r1, r2, r3, r4, r5⟩, ⟨c, s1, s2⟩, ⟨ot, t1, t2, t3, t4⟩, p8, p9, p10⟩ := h
  have n1 : tn ≠ 1 := by omega
  have n2 : tn ≠ 2 := by omega
  have n1' : (1 : Int) ≠ tn := by omega
  have n2' : (2 : Int) ≠ tn := by omega
  have e1 : refV ⟨6, 1⟩ = true := ref6 (by decide)
  have e2 : refV ⟨6, 2⟩ = true := ref6 (by decide)
  have e0 : refV ⟨1, 0⟩ = false := by decide
  have m0 : mayV ⟨1, 0⟩ = true := by decide
  have m1 : mayV ⟨6, 1⟩ = true := by decide
  have m2 : mayV ⟨6, 2⟩ = true := by decide
  refine ⟨⟨htt.may, ?_, tbt hmt⟩, ?_, ?_, ?_, ?_⟩
  · rcases hm with rfl | rfl | rfl <;> simp_all [keepG, upd]
  · rcases hm with rfl | rfl | rfl
    · exact .inl rfl
    · refine .inr ⟨T1, rfl, ht1.may, ?_, tb1⟩
      simp_all [keepG, upd]
    · refine .inr ⟨T2, rfl, ht2.may, ?_, tb2⟩
      simp_all [keepG, upd]
  · rcases hm with rfl | rfl | rfl <;> simp_all [keepG, upd, thereV]
  · intro hr
    rcases hm with rfl | rfl | rfl <;> rcases hmt with rfl | rfl | rfl <;> simp_all [keepG, swapG, upd] <;> omega
  · rcases hm with rfl | rfl | rfl <;> simp_all [keepG] <;> omega
end Go.Proofs.Ythpnhdopheofcaa

end
section
namespace Go.Proofs.Ythpnhdopheofcaa
open Go.Dx
variable {tbl : Nat → Option CFunc}

section
variable {M : Mem} {hp : Pos} {P : Pos → Prop} {G : Hp} {sp mp : Pos}

theorem keep_no (F : MeT tbl) {v : Vl} (hH : HeapIs M hp P G) (hr : refV v = false) :
    CallW tbl 18 (.cons (.ptr hp 0) (.cons (VlA v) .nil)) M fun r M' => r = .ret (.int 3 0) ∧ But (fun _ => False) M M' := by
  refine CallW.wf fun hw => ?_
  obtain ⟨own, Y, rfl, hP, hB⟩ := hH
  obtain ⟨k, n⟩ := v
  refine CallW.intro F.h18 rfl (fr := .nod (.val .leaf (.ptr Y.hp 0) .leaf) (.val .leaf (VlA ⟨k, n⟩) .leaf)) rfl ?_
  have hb := But.new (S := fun _ => False) hw (.cells [.int 3 k, .int 3 n] false)
  simp only [go_sem, cf18, VlA]
  refine (counted_no F.h71 F.h77 F.h81 F.h85 F.h115 F.h117 F.h143 (v := ⟨k, n⟩) (hB.quiet hb) hr).use ?_
  rintro r M1 hw1 ⟨rfl, b1⟩
  simp only [go_sem]
  exact hb.trans b1

theorem mkeep_ok (F : MeT tbl) {tn want mk : Int} {met m : Vl} {B : Nat} (hI : IW G tn met want mk B) (hB : B ≤ 1000) (hm : Met m) (hH : HeapIs M hp P G) :
    CallW tbl 18 (.cons (.ptr hp 0) (.cons (VlA m) .nil)) M fun r M' => r = .ret (.int 3 0) ∧ HeapIs M' hp P (keepG G m) ∧ But (fun p => ¬ P p) M M' := by
  cases hr : refV m with
  | false =>
    refine (keep_no F hH hr).use ?_
    rintro r M' hw' ⟨rfl, b⟩
    have : keepG G m = G := by simp [keepG, hr]
    rw [this]
    exact ⟨rfl, hH.quiet b, b.any _⟩
  | true =>
    have ho : ∃ o, G.objs m.n = some o ∧ o.kind = m.k ∧ 1 ≤ o.count ∧ o.count ≤ B + 1 := by
      rcases hm with rfl | rfl | rfl
      · exact absurd hr (by decide)
      · obtain ⟨o, q1, q2, _, q4, q5⟩ := hI.o1
        exact ⟨o, q1, q2, by split at q4 <;> omega, q5⟩
      · obtain ⟨o, q1, q2, _, q4, q5⟩ := hI.o2
        exact ⟨o, q1, q2, by split at q4 <;> omega, q5⟩
    obtain ⟨o, q1, q2, q3, q4⟩ := ho
    refine (keep_yes F.h18 F.h71 F.h77 F.h81 F.h85 F.h115 F.h117 F.h143 hH hr q1 q2 (by omega) ⟨by omega, by omega⟩).use ?_
    rintro r M' hw' ⟨rfl, hH', b⟩
    have : keepG G m = { G with objs := upd G.objs m.n (some { o with count := o.count + 1 }) } := by simp [keepG, hr, q1]
    rw [this]
    exact ⟨rfl, hH', b⟩

theorem mset_ok (F : MeT tbl) {tn want mk : Int} {met m : Vl} {B : Nat} (hI : IW G tn met want mk B) (hB : B ≤ 1000) (hm : Met m) (hS : StrIs M hp sp mp (some 3)) (hH : HeapIs M hp P (keepG G m)) (hPs : P sp) (hPm : P mp) :
    CallW tbl 60 (.cons (.ptr hp 0) (.cons (.ptr sp 0) (.cons (VlA ⟨6, tn⟩) (.cons (VlA m) .nil)))) M fun r M' => r = .ret (.int 3 0) ∧ HeapIs M' hp P (setG (keepG G m) tn (Tt met) m (valG m)) ∧ But (fun p => ¬ P p) M M' := by
  obtain ⟨a1, a2, a3, a4, a5⟩ := round_pre hI hB hm
  have hL := round_law' hI hB hm
  have hmk : (dropG (swapG (keepG G m) tn 0 m) (Tt met).met).marks = mk ∧ 0 ≤ mk ∧ mk ≤ ((B + 1 : Nat) : Int) := hL.mks
  exact set_ok F (T := Tt met) (T1 := Tt m) hS hH hPs hPm a1 a2 a3 a4 a5 hL.o3 (by decide) hL.low hL.tt (hL.ev hm) ⟨by omega, by omega⟩
end

/-- The law's world: the heap, the strings, the boxes of the two metatables. -/
structure LW (M0 M : Mem) (P : Pos → Prop) (hp sp mp pb gb : Pos) (G : Hp) : Prop where
  hp_ : HeapIs M hp P G
  st : StrIs M hp sp mp (some 3)
  xp : M.get pb = some (.cells [.int 3 6, .int 3 1] false)
  xg : M.get gb = some (.cells [.int 3 6, .int 3 2] false)
  old : Old M0 M
  p0 : ∀ p, p.num < M0.next.num → P p
  ps : P sp
  pm : P mp
  pp : P pb
  pg : P gb

section
variable {M0 M M' : Mem} {P : Pos → Prop} {hp sp mp pb gb : Pos} {G G' : Hp}
theorem LW.to (h : LW M0 M P hp sp mp pb gb G) (hw0 : M0.wf) (hb : But (fun p => ¬ P p) M M') (hH : HeapIs M' hp P G') : LW M0 M' P hp sp mp pb gb G' :=
  ⟨hH, h.st.but hb (fun e => e h.ps) (fun e => e h.pm), hb.get _ _ (fun e => e h.pp) h.xp, hb.get _ _ (fun e => e h.pg) h.xg,
    ⟨Nat.le_trans h.old.next hb.next, fun p b hp => hb.get p b (fun e => e (h.p0 p (hw0 p b hp))) (h.old.get p b hp)⟩, h.p0, h.ps, h.pm, h.pp, h.pg⟩
theorem LW.quiet (h : LW M0 M P hp sp mp pb gb G) (hw0 : M0.wf) (hb : But (fun _ => False) M M') : LW M0 M' P hp sp mp pb gb G := h.to hw0 (hb.any _) (h.hp_.quiet hb)
theorem LW.less {Q : Pos → Prop} (h : LW M0 M P hp sp mp pb gb G) (hq : ∀ p, Q p → P p) (q0 : ∀ p, p.num < M0.next.num → Q p) (qs : Q sp) (qm : Q mp) (qp : Q pb) (qg : Q gb) : LW M0 M Q hp sp mp pb gb G :=
  ⟨h.hp_.less hq, h.st, h.xp, h.xg, h.old, q0, qs, qm, qp, qg⟩
/-- A box that is filled; it survives what the heap does. -/
theorem LW.box (h : LW M0 M P hp sp mp pb gb G) (hw0 : M0.wf) (hw : M.wf) (b b' : MB) : LW M0 ((M.new b).put M.next b') (fun p => P p ∨ p = M.next) hp sp mp pb gb G := by
  have h1 := h.quiet hw0 (But.fill hw b b')
  refine ⟨h.hp_.wide (But.fill hw b b') (Nat.le_refl _) (by show M.next.num < M.next.succ.num; rw [Pos.num_succ]; omega), h1.st, h1.xp, h1.xg, h1.old, fun p hp => .inl (h.p0 p hp), .inl h.ps, .inl h.pm, .inl h.pp, .inl h.pg⟩
end
end Go.Proofs.Ythpnhdopheofcaa

end
section
namespace Go.Proofs.Ythpnhdopheofcaa
open Go.Dx
variable {tbl : Nat → Option CFunc}

def U8L (l : List Nat) : List (List AV) := l.map fun n : Nat => [.int 4 (n : Int)]
theorem u8L_len (l : List Nat) : (U8L l).length = l.length := by simp [U8L]
theorem u8_at {M : Mem} {a : AV} {l : List Nat} (h : SlIs M a 1 (U8L l)) {i : Nat} (hi : i < l.length) : ∃ p o, slAt a = some (p, o, l.length) ∧ MB.cell (M.get p) (o + i * 1) = some (.int 4 ((l[i]'hi : Nat) : Int)) := by
  obtain ⟨p, o, h1, h2⟩ := h.at_ (i := i) (by simpa [U8L] using hi)
  refine ⟨p, o, by rw [u8L_len] at h1; exact h1, MB.cell_one ?_⟩
  rw [h2]
  simp [U8L, List.getElem?_eq_getElem hi]

/-- The heap between two tables of the law. -/
structure OW (G : Hp) (n0 : Int) (mk : Int) (B : Nat) : Prop where
  fr : G.free = []
  nx : G.next = n0
  tn4 : 4 ≤ n0 ∧ n0 ≤ 900
  mks : G.marks = mk ∧ 0 ≤ mk ∧ mk ≤ B
  o1 : ∃ o, G.objs 1 = some o ∧ o.kind = 6 ∧ o.slots = T1.slots ∧ 1 ≤ o.count ∧ o.count ≤ B + 1
  o2 : ∃ o, G.objs 2 = some o ∧ o.kind = 6 ∧ o.slots = T2.slots ∧ 1 ≤ o.count ∧ o.count ≤ B + 1
  o3 : ∃ c, G.objs 3 = some (gcO c) ∧ c ≠ 0
  bf : G.buffer.length ≤ B
  low : Low G
theorem IW.ow {G : Hp} {tn want mk : Int} {met : Vl} {B : Nat} (h : IW G tn met want mk B) (ht : tn ≤ 899) : OW G (tn + 1) mk B := by
  have := h.tn4
  refine ⟨h.fr, h.nx, ⟨by omega, by omega⟩, h.mks, ?_, ?_, h.o3, h.bf, h.low⟩
  · obtain ⟨o, q1, q2, q3, q4, q5⟩ := h.o1
    exact ⟨o, q1, q2, q3, by split at q4 <;> omega, q5⟩
  · obtain ⟨o, q1, q2, q3, q4, q5⟩ := h.o2
    exact ⟨o, q1, q2, q3, by split at q4 <;> omega, q5⟩
def newG (G : Hp) : Hp := { takeG G with objs := upd (upd G.objs G.next (some ⟨6, 1, [], 0, 0, 0⟩)) G.next (some ⟨6, 1, [⟨1, 0⟩, ⟨3, 0⟩], 0, 0, 0⟩) }
theorem OW.iw {G : Hp} {nx mk : Int} {B : Nat} (h : OW G nx mk B) : IW (newG G) nx ⟨1, 0⟩ 0 mk B := by
  obtain ⟨p1, p2, ⟨p3, p4⟩, ⟨p5, p6, p7⟩, ⟨o1, q1, q2, q3, q4, q5⟩, ⟨o2, r1, r2, r3, r4, r5⟩, ⟨c, s1, s2⟩, p8, p9⟩ := h
  have n1 : (1 : Int) ≠ nx := by omega
  have n2 : (2 : Int) ≠ nx := by omega
  have n3 : (3 : Int) ≠ nx := by omega
  refine ⟨by simp [newG, takeG, p1], by simp [newG, takeG, p1, p2], ⟨p3, by omega⟩, ⟨p5, p6, p7⟩, ⟨o1, ?_, q2, q3, ?_, q5⟩, ⟨o2, ?_, r2, r3, ?_, r5⟩, ⟨c, ?_, s2⟩, ⟨⟨6, 1, [⟨1, 0⟩, ⟨3, 0⟩], 0, 0, 0⟩, ?_, rfl, rfl, rfl⟩, p8, ?_, .inl rfl⟩
  · simp [newG, upd, p2, n1, q1]
  · simpa using q4
  · simp [newG, upd, p2, n2, r1]
  · simpa using r4
  · simp [newG, upd, p2, n3, s1]
  · simp [newG, upd, p2]
  · intro n' o' ho'
    simp only [newG, upd] at ho'
    repeat' split at ho'
    all_goals first
      | exact p9 _ _ ho'
      | (cases ho'; simp [most]; done)

theorem bits (a : Nat) {r : Int} (h : r = 0 ∨ r = 1) : ∃ y : Int, ∃ x : Int, shiftI .shr 4 (a : Int) (2 * r) = some (.int 4 x) ∧ arithI .and 4 x 3 = some (.int 4 y) := by
  rcases h with rfl | rfl <;> exact ⟨_, _, rfl, rfl⟩

theorem put_put (M : Mem) (q : Pos) (x y : MB) : (M.put q x).put q y = M.put q y := by
  have : (fun p => if p = q then some y else (M.put q x).get p) = fun p => if p = q then some y else M.get p := by
    funext p
    by_cases h : p = q
    · rw [if_pos h, if_pos h]
    · rw [if_neg h, if_neg h]; show (if p = q then _ else _) = _; rw [if_neg h]
  unfold Mem.put at *
  rw [this]

theorem mbody7 : seqTail 7 cf10.body = .seq (seqHead (seqTail 7 cf10.body)) (seqTail 8 cf10.body) := rfl
theorem mbody8 : seqTail 8 cf10.body = .seq (seqHead (seqTail 8 cf10.body)) (seqTail 9 cf10.body) := rfl

def P0 (M0 : Mem) (sp mp pb gb : Pos) : Pos → Prop := fun p => p.num < M0.next.num ∨ p = sp ∨ p = mp ∨ p = pb ∨ p = gb

theorem me_b0 (F : MeT tbl) (h61 : tbl 61 = some ⟨.skip, [], some (.bool true)⟩) {M0 M : Mem} {sv : AV} {l : List Nat} {fr : Tr AV} {hp sp mp pb gb : Pos} {G : Hp} (hs : SlIs M0 sv 1 (U8L l)) (hw0 : M0.wf) (hw : M.wf) (S : LW M0 M (P0 M0 sp mp pb gb) hp sp mp pb gb G) (O : OW G 4 0 2)
    (f1 : fr.get (.o .h) = some sv) (f2 : fr.get (.i (.o .h)) = some (.ptr hp 0)) (f3 : fr.get (.o (.i .h)) = some (.ptr sp 0)) (f4 : fr.get (.i (.i .h)) = some (.ptr pb 0)) (f5 : fr.get (.o (.o (.o .h))) = some (.ptr gb 0)) (f6 : fr.get (.i (.o (.o .h))) = some (.int 3 0)) :
    CCode.wp tbl (seqTail 7 cf10.body) fr M (finW cf10.results fun r _ => r = .ret (.bool true)) := by
  have tail : ∀ (fr : Tr AV) (M2 : Mem), M2.wf → CCode.wp tbl (seqTail 8 cf10.body) fr M2 (finW cf10.results fun r _ => r = .ret (.bool true)) := by
    intro fr M2 w2
    rw [mbody8]
    simp only [go_sem, cf10, seqHead, seqTail]
    refine CallW.konst h61 rfl ?_
    simp only [go_sem]
  have hlen := hs.len
  rw [u8L_len] at hlen
  have hN : ∃ N, N = min l.length 20 := ⟨_, rfl⟩
  obtain ⟨N, hN⟩ := hN
  rw [mbody7]
  generalize seqTail 8 cf10.body = tl at *
  simp only [go_sem, cf10, seqHead, seqTail]
  refine loop_wp (I := fun n fr M' => n ≤ N ∧ M'.wf ∧ (∃ G mk, LW M0 M' (P0 M0 sp mp pb gb) hp sp mp pb gb G ∧ OW G ((4 + (N - n) : Nat) : Int) mk (2 + 2 * (N - n)) ∧ fr.get (.i (.o (.o .h))) = some (.int 3 mk)) ∧ fr.get (.o .h) = some sv ∧ fr.get (.i (.o .h)) = some (.ptr hp 0) ∧ fr.get (.o (.i .h)) = some (.ptr sp 0) ∧ fr.get (.i (.i .h)) = some (.ptr pb 0) ∧ fr.get (.o (.o (.o .h))) = some (.ptr gb 0) ∧ fr.get (.o (.i (.o .h))) = some (.int 3 ((N - n : Nat) : Int))) (n := N) ?_ ?_
  · refine ⟨Nat.le_refl _, hw, ⟨G, 0, S, by rw [Nat.sub_self]; exact O, ?_⟩, ?_, ?_, ?_, ?_, ?_, ?_⟩
    · simp [Tr.get_set, f6]
    · simp [Tr.get_set, f1]
    · simp [Tr.get_set, f2]
    · simp [Tr.get_set, f3]
    · simp [Tr.get_set, f4]
    · simp [Tr.get_set, f5]
    · rw [Nat.sub_self]; simp [Tr.get_set]
  · rintro n fr M' ⟨i1, i2, ⟨G, mk, S', O', f6⟩, f1, f2, f3, f4, f5, f7⟩
    cases n with
    | zero =>
      by_cases hle : l.length ≤ 20
      · have g1 : decide (((N - 0 : Nat) : Int) < (l.length : Int)) = false := by simp only [decide_eq_false_iff_not]; omega
        simp only [go_sem, f1, f7, hlen, g1]
        exact tail _ _ i2
      · have g1 : decide (((N - 0 : Nat) : Int) < (l.length : Int)) = true := by simp only [decide_eq_true_eq]; omega
        have g2 : decide (((N - 0 : Nat) : Int) < 20) = false := by simp only [decide_eq_false_iff_not]; omega
        simp only [go_sem, f1, f7, hlen, g1, g2]
        exact tail _ _ i2
    | succ n =>
      have g1 : decide (((N - (n + 1) : Nat) : Int) < (l.length : Int)) = true := by simp only [decide_eq_true_eq]; omega
      have g2 : decide (((N - (n + 1) : Nat) : Int) < 20) = true := by simp only [decide_eq_true_eq]; omega
      have hi : N - (n + 1) < l.length := by omega
      have e9 : IntKind.i64.wrap (((N - (n + 1) : Nat) : Int) + 1) = ((N - n : Nat) : Int) := by rw [wrap64 (by omega) (by omega)]; omega
      simp only [go_sem, f1, f2, f7, hlen, g1, g2]
      have htn := O'.tn4
      refine (tnew_spec F.tb S'.hp_ O'.fr (by rw [O'.nx]; constructor <;> omega)).use ?_
      rintro r M1 hw1 ⟨rfl, hH1, b1⟩
      have S1 : LW M0 M1 (P0 M0 sp mp pb gb) hp sp mp pb gb (newG G) := S'.to hw0 b1 hH1
      have S2 := S1.box hw0 hw1 (.cells [.int 3 0, .int 3 0] false) (.cells [.int 3 6, .int 3 G.next] false)
      have I2 := O'.iw
      have w2 := hw1.fill (.cells [.int 3 0, .int 3 0] false) (.cells [.int 3 6, .int 3 G.next] false)
      have x2 : ((M1.new (.cells [.int 3 0, .int 3 0] false)).put M1.next (.cells [.int 3 6, .int 3 G.next] false)).get M1.next = some (.cells [.int 3 6, .int 3 G.next] false) := by simp [Mem.put]
      have hnx := O'.nx
      simp only [go_sem, VlA]
      rw [hnx] at S2 w2 x2 ⊢
      generalize hM2 : (M1.new (.cells [.int 3 0, .int 3 0] false)).put M1.next (.cells [.int 3 6, .int 3 ((4 + (N - (n + 1)) : Nat) : Int)] false) = M2 at *
      generalize hG2 : newG G = G2 at *
      generalize htb : M1.next = tb at *
      have htb0 : M0.next.num ≤ tb.num := by rw [← htb]; exact S1.old.next
      generalize hB0 : 2 + 2 * (N - (n + 1)) = B0 at *
      have hB0' : B0 ≤ 42 := by omega
      generalize htnn : ((4 + (N - (n + 1)) : Nat) : Int) = tn at *
      refine loop_wp (I := fun m fr M' => m ≤ 2 ∧ M'.wf ∧ (∃ G met want mk, LW M0 M' (fun p => P0 M0 sp mp pb gb p ∨ p = tb) hp sp mp pb gb G ∧ IW G tn met want mk (B0 + (2 - m)) ∧ fr.get (.i (.o (.o .h))) = some (.int 3 mk) ∧ fr.get (.o (.o (.i .h))) = some (.int 3 want)) ∧ M'.get tb = some (.cells [.int 3 6, .int 3 tn] false) ∧ fr.get (.o .h) = some sv ∧ fr.get (.i (.o .h)) = some (.ptr hp 0) ∧ fr.get (.o (.i .h)) = some (.ptr sp 0) ∧ fr.get (.i (.i .h)) = some (.ptr pb 0) ∧ fr.get (.o (.o (.o .h))) = some (.ptr gb 0) ∧ fr.get (.o (.i (.o .h))) = some (.int 3 ((N - (n + 1) : Nat) : Int)) ∧ fr.get (.i (.i (.o .h))) = some (.ptr tb 0) ∧ fr.get (.i (.o (.i .h))) = some (.int 3 ((2 - m : Nat) : Int))) (n := 2) ?_ ?_
      · refine ⟨Nat.le_refl _, w2, ⟨G2, _, 0, mk, S2, I2, ?_, ?_⟩, x2, ?_, ?_, ?_, ?_, ?_, ?_, ?_, ?_⟩
        · simp [Tr.get_set, f6]
        · simp [Tr.get_set]
        · simp [Tr.get_set, f1]
        · simp [Tr.get_set, f2]
        · simp [Tr.get_set, f3]
        · simp [Tr.get_set, f4]
        · simp [Tr.get_set, f5]
        · simp [Tr.get_set, f7]
        · simp [Tr.get_set]
        · simp [Tr.get_set]
      · rintro m fr M' ⟨j1, j2, ⟨G, met, want, mk, S, I, h6, h8⟩, t, h1, h2, h3, h4, h5, h7, h9, h10⟩
        cases m with
        | zero =>
          have hr2 : decide (((2 - 0 : Nat) : Int) < 2) = false := rfl
          simp only [go_sem, h10, hr2, h2, h9, t]
          obtain ⟨ot, q1, q2, q3, q4⟩ := I.ot
          refine (obj_some F.h25 F.h75 F.h76 S.hp_ q1 (by rw [q3]; simp [Tt, Tb.slots, flatP, most])).use ?_
          rintro r M3 hw3 ⟨sv', rfl, hf, b3⟩
          have S3 := (S.quiet hw0 b3).less (Q := P0 M0 sp mp pb gb) (fun p hp => .inl hp) S'.p0 S'.ps S'.pm S'.pp S'.pg
          have gw : (want != want) = false := by simp
          have hO := I.ow (by omega)
          simp only [go_sem, ObA, q4, h8, gw, h7, e9]
          refine ⟨n, by omega, by omega, hw3, ⟨_, mk, S3, ?_, ?_⟩, ?_, ?_, ?_, ?_, ?_, ?_⟩
          · have e1 : tn + 1 = ((4 + (N - n) : Nat) : Int) := by omega
            have e2 : B0 + (2 - 0) = 2 + 2 * (N - n) := by omega
            rw [e1, e2] at hO
            exact hO
          · simp [Tr.get_set, h6]
          · simp [Tr.get_set, h1]
          · simp [Tr.get_set, h2]
          · simp [Tr.get_set, h3]
          · simp [Tr.get_set, h4]
          · simp [Tr.get_set, h5]
          · simp [Tr.get_set]
        | succ m =>
          have hB : B0 + (2 - (m + 1)) ≤ 1000 := by omega
          have eB : B0 + (2 - m) = B0 + (2 - (m + 1)) + 1 := by omega
          have hr01 : ((2 - (m + 1) : Nat) : Int) = 0 ∨ ((2 - (m + 1) : Nat) : Int) = 1 := by omega
          have er : IntKind.i64.wrap (((2 - (m + 1) : Nat) : Int) + 1) = ((2 - m : Nat) : Int) := by rw [wrap64 (by omega) (by omega)]; omega
          have hr2 : decide (((2 - (m + 1) : Nat) : Int) < 2) = true := by simp only [decide_eq_true_eq]; omega
          generalize hrr : ((2 - (m + 1) : Nat) : Int) = rr at *
          simp only [go_sem, h10, hr2]
          refine (lnull_ok F).use ?_
          rintro r M3 hw3 ⟨rfl, b3⟩
          have S3 := S.quiet hw0 b3
          have t3 := b3.get _ _ id t
          obtain ⟨p, po, a1, rd⟩ := u8_at (hs.old S3.old) hi
          have hbp : ∃ bp, M3.get p = some bp := by
            cases hx : M3.get p with
            | none => rw [hx] at rd; cases rd
            | some bp => exact ⟨bp, rfl⟩
          obtain ⟨bp, hbp⟩ := hbp
          have nep := hw3.ne hbp
          have xpb := S3.xp
          have xgb := S3.xg
          have npb := hw3.ne xpb
          have ngb := hw3.ne xgb
          obtain ⟨y, x, hsh, hand⟩ := bits (l[N - (n + 1)]) hr01
          have hwr : IntKind.i64.wrap (2 * rr) = 2 * rr := wrap64 (by omega) (by omega)
          have hmul : arithI .mul 3 2 rr = some (.int 3 (2 * rr)) := by show some (AV.int 3 (IntKind.i64.wrap (2 * rr))) = _; rw [hwr]
          by_cases hy1 : y = 1
          · have c1 : (y == 1) = true := by simp [hy1]
            have c2 : decide (1 < y) = false := by simp [hy1]

            have S5 := S3.box hw0 hw3 (.cells [.int 3 0, .int 3 0] false) (.cells [.int 3 6, .int 3 1] false)
            have w5 := hw3.fill (.cells [.int 3 0, .int 3 0] false) (.cells [.int 3 6, .int 3 1] false)
            have x5 : ((M3.new (.cells [.int 3 0, .int 3 0] false)).put M3.next (.cells [.int 3 6, .int 3 1] false)).get M3.next = some (.cells [.int 3 6, .int 3 1] false) := by simp [Mem.put]
            have t5 := (But.fill hw3 (.cells [.int 3 0, .int 3 0] false) (.cells [.int 3 6, .int 3 1] false)).get _ _ id t3
            have pp5 := put_put (M3.new (.cells [.int 3 0, .int 3 0] false)) M3.next (.cells [.int 3 1, .int 3 0] false) (.cells [.int 3 6, .int 3 1] false)
            simp only [go_sem, VlA, h1, h2, h3, h4, h5, h6, h7, h8, h9, h10, a1, hi, rd, nep, npb, ngb, xpb, xgb, hmul, hwr, hsh, hand, c1, c2]
            rw [pp5]
            generalize hM5 : (M3.new (.cells [.int 3 0, .int 3 0] false)).put M3.next (.cells [.int 3 6, .int 3 1] false) = M5 at *
            refine (mkeep_ok F I hB (m := ⟨6, 1⟩) (.inr (.inl rfl)) S5.hp_).use ?_
            rintro r M6 hw6 ⟨rfl, hH6, b6⟩
            have S6 := S5.to hw0 b6 hH6
            have x6 := b6.get _ _ (fun e => e (.inr rfl)) x5
            have t6 := b6.get _ _ (fun e => e (.inl (.inr rfl))) t5
            simp only [go_sem, VlA, h2, h3, h9, x6, t6]
            refine (mset_ok F I hB (m := ⟨6, 1⟩) (.inr (.inl rfl)) S6.st S6.hp_ S6.ps S6.pm).use ?_
            rintro r M7 hw7 ⟨rfl, hH7, b7⟩
            have S7 := (S6.to hw0 b7 hH7).less (Q := fun p => P0 M0 sp mp pb gb p ∨ p = tb) (fun p hp => .inl hp) S2.p0 S2.ps S2.pm S2.pp S2.pg
            have t7 := b7.get _ _ (fun e => e (.inl (.inr rfl))) t6
            have I7 := round_law I hB (m := ⟨6, 1⟩) (.inr (.inl rfl))
            rw [if_neg (by simp), if_neg (by simp)] at I7
            simp only [go_sem, h10, er]
            refine ⟨m, by omega, by omega, hw7, ⟨_, _, _, _, S7, by rw [eB]; exact I7, ?_, ?_⟩, t7, ?_, ?_, ?_, ?_, ?_, ?_, ?_, ?_⟩
            · simp [Tr.get_set, h6]
            · simp [Tr.get_set, h8]
            · simp [Tr.get_set, h1]
            · simp [Tr.get_set, h2]
            · simp [Tr.get_set, h3]
            · simp [Tr.get_set, h4]
            · simp [Tr.get_set, h5]
            · simp [Tr.get_set, h7]
            · simp [Tr.get_set, h9]
            · simp [Tr.get_set]
          · have c1 : (y == 1) = false := by simp [hy1]
            by_cases hy2 : 1 < y
            · have c2 : decide (1 < y) = true := by simp [hy2]
              by_cases hz : want = 0
              · have c3 : (want == 0) = true := by simp [hz]
                have emk : IntKind.i64.wrap (mk + 1) = mk + 1 := wrap64 (by have := I.mks; omega) (by have := I.mks; omega)
                have S5 := S3.box hw0 hw3 (.cells [.int 3 0, .int 3 0] false) (.cells [.int 3 6, .int 3 2] false)
                have w5 := hw3.fill (.cells [.int 3 0, .int 3 0] false) (.cells [.int 3 6, .int 3 2] false)
                have x5 : ((M3.new (.cells [.int 3 0, .int 3 0] false)).put M3.next (.cells [.int 3 6, .int 3 2] false)).get M3.next = some (.cells [.int 3 6, .int 3 2] false) := by simp [Mem.put]
                have t5 := (But.fill hw3 (.cells [.int 3 0, .int 3 0] false) (.cells [.int 3 6, .int 3 2] false)).get _ _ id t3
                have pp5 := put_put (M3.new (.cells [.int 3 0, .int 3 0] false)) M3.next (.cells [.int 3 1, .int 3 0] false) (.cells [.int 3 6, .int 3 2] false)
                simp only [go_sem, VlA, h1, h2, h3, h4, h5, h6, h7, h8, h9, h10, a1, hi, rd, nep, npb, ngb, xpb, xgb, hmul, hwr, hsh, hand, c1, c2, c3, emk]
                rw [pp5]
                generalize hM5 : (M3.new (.cells [.int 3 0, .int 3 0] false)).put M3.next (.cells [.int 3 6, .int 3 2] false) = M5 at *
                refine (mkeep_ok F I hB (m := ⟨6, 2⟩) (.inr (.inr rfl)) S5.hp_).use ?_
                rintro r M6 hw6 ⟨rfl, hH6, b6⟩
                have S6 := S5.to hw0 b6 hH6
                have x6 := b6.get _ _ (fun e => e (.inr rfl)) x5
                have t6 := b6.get _ _ (fun e => e (.inl (.inr rfl))) t5
                simp only [go_sem, VlA, h2, h3, h9, x6, t6]
                refine (mset_ok F I hB (m := ⟨6, 2⟩) (.inr (.inr rfl)) S6.st S6.hp_ S6.ps S6.pm).use ?_
                rintro r M7 hw7 ⟨rfl, hH7, b7⟩
                have S7 := (S6.to hw0 b7 hH7).less (Q := fun p => P0 M0 sp mp pb gb p ∨ p = tb) (fun p hp => .inl hp) S2.p0 S2.ps S2.pm S2.pp S2.pg
                have t7 := b7.get _ _ (fun e => e (.inl (.inr rfl))) t6
                have I7 := round_law I hB (m := ⟨6, 2⟩) (.inr (.inr rfl))
                rw [if_pos ⟨rfl, hz⟩, if_pos ⟨rfl, hz⟩] at I7
                simp only [go_sem, h10, er]
                refine ⟨m, by omega, by omega, hw7, ⟨_, _, _, _, S7, by rw [eB]; exact I7, ?_, ?_⟩, t7, ?_, ?_, ?_, ?_, ?_, ?_, ?_, ?_⟩
                · simp [Tr.get_set, h6]
                · simp [Tr.get_set, h8]
                · simp [Tr.get_set, h1]
                · simp [Tr.get_set, h2]
                · simp [Tr.get_set, h3]
                · simp [Tr.get_set, h4]
                · simp [Tr.get_set, h5]
                · simp [Tr.get_set, h7]
                · simp [Tr.get_set, h9]
                · simp [Tr.get_set]
              · have c3 : (want == 0) = false := by simp [hz]
                have S5 := S3.box hw0 hw3 (.cells [.int 3 0, .int 3 0] false) (.cells [.int 3 6, .int 3 2] false)
                have w5 := hw3.fill (.cells [.int 3 0, .int 3 0] false) (.cells [.int 3 6, .int 3 2] false)
                have x5 : ((M3.new (.cells [.int 3 0, .int 3 0] false)).put M3.next (.cells [.int 3 6, .int 3 2] false)).get M3.next = some (.cells [.int 3 6, .int 3 2] false) := by simp [Mem.put]
                have t5 := (But.fill hw3 (.cells [.int 3 0, .int 3 0] false) (.cells [.int 3 6, .int 3 2] false)).get _ _ id t3
                have pp5 := put_put (M3.new (.cells [.int 3 0, .int 3 0] false)) M3.next (.cells [.int 3 1, .int 3 0] false) (.cells [.int 3 6, .int 3 2] false)
                simp only [go_sem, VlA, h1, h2, h3, h4, h5, h6, h7, h8, h9, h10, a1, hi, rd, nep, npb, ngb, xpb, xgb, hmul, hwr, hsh, hand, c1, c2, c3]
                rw [pp5]
                generalize hM5 : (M3.new (.cells [.int 3 0, .int 3 0] false)).put M3.next (.cells [.int 3 6, .int 3 2] false) = M5 at *
                refine (mkeep_ok F I hB (m := ⟨6, 2⟩) (.inr (.inr rfl)) S5.hp_).use ?_
                rintro r M6 hw6 ⟨rfl, hH6, b6⟩
                have S6 := S5.to hw0 b6 hH6
                have x6 := b6.get _ _ (fun e => e (.inr rfl)) x5
                have t6 := b6.get _ _ (fun e => e (.inl (.inr rfl))) t5
                simp only [go_sem, VlA, h2, h3, h9, x6, t6]
                refine (mset_ok F I hB (m := ⟨6, 2⟩) (.inr (.inr rfl)) S6.st S6.hp_ S6.ps S6.pm).use ?_
                rintro r M7 hw7 ⟨rfl, hH7, b7⟩
                have S7 := (S6.to hw0 b7 hH7).less (Q := fun p => P0 M0 sp mp pb gb p ∨ p = tb) (fun p hp => .inl hp) S2.p0 S2.ps S2.pm S2.pp S2.pg
                have t7 := b7.get _ _ (fun e => e (.inl (.inr rfl))) t6
                have I7 := round_law I hB (m := ⟨6, 2⟩) (.inr (.inr rfl))
                rw [if_neg (by simp [hz]), if_neg (by simp [hz])] at I7
                simp only [go_sem, h10, er]
                refine ⟨m, by omega, by omega, hw7, ⟨_, _, _, _, S7, by rw [eB]; exact I7, ?_, ?_⟩, t7, ?_, ?_, ?_, ?_, ?_, ?_, ?_, ?_⟩
                · simp [Tr.get_set, h6]
                · simp [Tr.get_set, h8]
                · simp [Tr.get_set, h1]
                · simp [Tr.get_set, h2]
                · simp [Tr.get_set, h3]
                · simp [Tr.get_set, h4]
                · simp [Tr.get_set, h5]
                · simp [Tr.get_set, h7]
                · simp [Tr.get_set, h9]
                · simp [Tr.get_set]
            · have c2 : decide (1 < y) = false := by simp [hy2]

              have S5 := S3.box hw0 hw3 (.cells [.int 3 0, .int 3 0] false) (.cells [.int 3 1, .int 3 0] false)
              have w5 := hw3.fill (.cells [.int 3 0, .int 3 0] false) (.cells [.int 3 1, .int 3 0] false)
              have x5 : ((M3.new (.cells [.int 3 0, .int 3 0] false)).put M3.next (.cells [.int 3 1, .int 3 0] false)).get M3.next = some (.cells [.int 3 1, .int 3 0] false) := by simp [Mem.put]
              have t5 := (But.fill hw3 (.cells [.int 3 0, .int 3 0] false) (.cells [.int 3 1, .int 3 0] false)).get _ _ id t3
              simp only [go_sem, VlA, h1, h2, h3, h4, h5, h6, h7, h8, h9, h10, a1, hi, rd, nep, npb, ngb, xpb, xgb, hmul, hwr, hsh, hand, c1, c2]
              generalize hM5 : (M3.new (.cells [.int 3 0, .int 3 0] false)).put M3.next (.cells [.int 3 1, .int 3 0] false) = M5 at *
              refine (mkeep_ok F I hB (m := ⟨1, 0⟩) (.inl rfl) S5.hp_).use ?_
              rintro r M6 hw6 ⟨rfl, hH6, b6⟩
              have S6 := S5.to hw0 b6 hH6
              have x6 := b6.get _ _ (fun e => e (.inr rfl)) x5
              have t6 := b6.get _ _ (fun e => e (.inl (.inr rfl))) t5
              simp only [go_sem, VlA, h2, h3, h9, x6, t6]
              refine (mset_ok F I hB (m := ⟨1, 0⟩) (.inl rfl) S6.st S6.hp_ S6.ps S6.pm).use ?_
              rintro r M7 hw7 ⟨rfl, hH7, b7⟩
              have S7 := (S6.to hw0 b7 hH7).less (Q := fun p => P0 M0 sp mp pb gb p ∨ p = tb) (fun p hp => .inl hp) S2.p0 S2.ps S2.pm S2.pp S2.pg
              have t7 := b7.get _ _ (fun e => e (.inl (.inr rfl))) t6
              have I7 := round_law I hB (m := ⟨1, 0⟩) (.inl rfl)
              rw [if_neg (by simp), if_neg (by simp)] at I7
              simp only [go_sem, h10, er]
              refine ⟨m, by omega, by omega, hw7, ⟨_, _, _, _, S7, by rw [eB]; exact I7, ?_, ?_⟩, t7, ?_, ?_, ?_, ?_, ?_, ?_, ?_, ?_⟩
              · simp [Tr.get_set, h6]
              · simp [Tr.get_set, h8]
              · simp [Tr.get_set, h1]
              · simp [Tr.get_set, h2]
              · simp [Tr.get_set, h3]
              · simp [Tr.get_set, h4]
              · simp [Tr.get_set, h5]
              · simp [Tr.get_set, h7]
              · simp [Tr.get_set, h9]
              · simp [Tr.get_set]
end Go.Proofs.Ythpnhdopheofcaa

end
section
namespace Go.Proofs.Ythpnhdopheofcaa
open Go.Dx
variable {tbl : Nat → Option CFunc}

/-- The heap when the text has its object. -/
def strG (G : Hp) : Hp := { takeG G with objs := upd G.objs G.next (some (gcO 1)) }

theorem put12 : (T1.put ⟨5, 3⟩ ⟨3, 1⟩).slots = T2.slots := by decide

section
variable {M : Mem} {hp : Pos} {P : Pos → Prop} {G : Hp} {sp mp : Pos}

theorem named_ok (F : MeT tbl) (hS : StrIs M hp sp mp none) (hsm : sp ≠ mp) (hH : HeapIs M hp P G) (hPs : P sp) (hPm : P mp) (ho : G.objs 0 = none) (hf : G.free = []) (hn : G.next = 3) (h2 : HasT G 2 T1) :
    CallW tbl 57 (.cons (.ptr hp 0) (.cons (.ptr sp 0) (.cons (VlA ⟨6, 2⟩) (.cons (.str 4 1667719007) (.cons (VlA ⟨3, 1⟩) .nil))))) M fun r M' => r = .ret (.bool true) ∧ HeapIs M' hp P (layG (strG G) 2 T2.slots) ∧ StrIs M' hp sp mp (some 3) ∧ But (fun p => ¬ P p ∨ p = mp) M M' := by
  refine CallW.wf fun hw => ?_
  refine CallW.intro F.h57 rfl (fr := .nod (.val (.val .leaf (VlA ⟨6, 2⟩) .leaf) (.ptr hp 0) (.val .leaf (VlA ⟨3, 1⟩) .leaf)) (.val (.val .leaf (.str 4 1667719007) .leaf) (.ptr sp 0) .leaf)) rfl ?_
  have b1 := But.new (S := fun _ => False) hw (.cells [.int 3 6, .int 3 2] false)
  have w1 := hw.new (.cells [.int 3 6, .int 3 2] false)
  have b2 := But.new (S := fun _ => False) w1 (.cells [.int 3 3, .int 3 1] false)
  have w2 := w1.new (.cells [.int 3 3, .int 3 1] false)
  have x1 : (M.new (.cells [.int 3 6, .int 3 2] false)).get M.next = some (.cells [.int 3 6, .int 3 2] false) := by simp only [go_sem]
  have x2 : ((M.new (.cells [.int 3 6, .int 3 2] false)).new (.cells [.int 3 3, .int 3 1] false)).get M.next.succ = some (.cells [.int 3 3, .int 3 1] false) := by simp only [go_sem]
  have y1 := b2.get _ _ id x1
  have hH1 := hH.more hw (.cells [.int 3 6, .int 3 2] false)
  have hH2 := hH1.more w1 (.cells [.int 3 3, .int 3 1] false)
  have nx : (M.new (.cells [.int 3 6, .int 3 2] false)).next = M.next.succ := rfl
  rw [nx] at hH2
  have b12 := b1.trans b2
  have hS2 := hS.but b12 id id
  simp only [go_sem, cf57, VlA]
  generalize hM2 : (M.new (.cells [.int 3 6, .int 3 2] false)).new (.cells [.int 3 3, .int 3 1] false) = M2 at *
  refine (of_ok F hS2 hsm hH2 (.inl (.inl hPs)) (.inl (.inl hPm)) ho hf (by rw [hn]; decide)).use ?_
  rintro r M3 hw3 ⟨rfl, hH3, hS3, b3⟩
  have hmp : mp.num < M.next.num := hw _ _ hS.2
  have nsu : M.next.succ.num = M.next.num + 1 := Pos.num_succ _
  have y3 := b3.get _ _ (fun h => h.elim (fun e => e (.inl (.inr rfl))) fun e => by rw [← e] at hmp; omega) y1
  have x3 := b3.get _ _ (fun h => h.elim (fun e => e (.inr rfl)) fun e => by rw [← e] at hmp; omega) x2
  have hsG : ({ takeG G with objs := upd G.objs G.next (some (gcO 1)) } : Hp) = strG G := rfl
  rw [hsG] at hH3
  rw [hn] at hS3
  have b4 := But.fill hw3 (.cells [.int 3 0, .int 3 0] false) (.cells [.int 3 5, .int 3 3] false)
  have w4 := hw3.fill (.cells [.int 3 0, .int 3 0] false) (.cells [.int 3 5, .int 3 3] false)
  have x4 : ((M3.new (.cells [.int 3 0, .int 3 0] false)).put M3.next (.cells [.int 3 5, .int 3 3] false)).get M3.next = some (.cells [.int 3 5, .int 3 3] false) := by simp [Mem.put]
  have y4 := b4.get _ _ id y3
  have z4 := b4.get _ _ id x3
  have ne3 := hw3.ne x3
  have hH4 := hH3.quiet b4
  simp only [go_sem, VlA, hn, x3, ne3]
  generalize hM4 : (M3.new (.cells [.int 3 0, .int 3 0] false)).put M3.next (.cells [.int 3 5, .int 3 3] false) = M4 at *
  refine (keep_no F (v := ⟨3, 1⟩) hH4 (by decide)).use ?_
  rintro r M5 hw5 ⟨rfl, b5⟩
  have y5 := b5.get _ _ id y4
  have z5 := b5.get _ _ id z4
  have x5 := b5.get _ _ id x4
  have hH5 := hH4.quiet b5
  simp only [go_sem, x5, y5, z5]
  have hT : HasT (strG G) 2 T1 := by
    obtain ⟨o, q1, q2, q3⟩ := h2.obj
    refine ⟨h2.may, ⟨o, ?_, q2, q3⟩, h2.ok⟩
    simp [strG, upd, hn, q1]
  refine (tput_ok F.toFnT ⟨5, 3⟩ ⟨3, 1⟩ hH5 hT (by decide) (by decide) (by decide) (.inr ⟨rfl, by decide⟩) (by decide) (by decide) (by decide) (by decide) ?_).use ?_
  · rw [put12]
    intro x hx
    simp only [T2, Tb.slots, flatP, List.flatMap_cons, List.flatMap_nil, List.mem_cons, List.not_mem_nil, or_false, List.nil_append, List.append_nil, List.length_nil, List.cons_append] at hx
    rcases hx with rfl | rfl | rfl | rfl
    · rfl
    · rfl
    · have hr : refV ⟨5, 3⟩ = true := by decide
      have hm : mayV ⟨5, 3⟩ = true := by decide
      simp [thereV, hr, hm, strG, upd, hn, gcO]
    · rfl
  rintro r M6 hw6 ⟨rfl, hH6, b6⟩
  rw [put12] at hH6
  simp only [go_sem]
  have hH7 := hH6.less (Q := P) fun p hp => .inl (.inl hp)
  have b45 := b4.trans b5
  have hS6 := (hS3.but b45 id id).but b6 (fun e => e (.inl (.inl hPs))) (fun e => e (.inl (.inl hPm)))
  have bb : But (fun p => ¬ P p ∨ p = mp) M M6 := ((b12.any _).trans (b3.mono fun p h => h.imp (fun hn hp => hn (.inl (.inl hp))) id)).trans ((b45.any _).trans (b6.mono fun p hn => .inl fun hp => hn (.inl (.inl hp))))
  first | exact ⟨hH7, hS6, bb⟩ | exact ⟨rfl, hH7, hS6, bb⟩
end
end Go.Proofs.Ythpnhdopheofcaa

end
section
namespace Go.Proofs.Ythpnhdopheofcaa
open Go.Dx
variable {tbl : Nat → Option CFunc}

theorem mbody0 : cf10.body = .seq (seqHead cf10.body) (.seq (seqHead (seqTail 1 cf10.body)) (.seq (seqHead (seqTail 2 cf10.body)) (.seq (seqHead (seqTail 3 cf10.body)) (.seq (seqHead (seqTail 4 cf10.body)) (.seq (seqHead (seqTail 5 cf10.body)) (.seq (seqHead (seqTail 6 cf10.body)) (seqTail 7 cf10.body))))))) := rfl

theorem ow0 : OW (layG (strG (newG (newG G0))) 2 T2.slots) 4 0 2 := by
  refine ⟨rfl, rfl, by decide, by decide, ⟨⟨6, 1, T1.slots, 0, 0, 0⟩, rfl, rfl, rfl, by decide, by decide⟩, ⟨⟨6, 1, T2.slots, 0, 0, 0⟩, rfl, rfl, rfl, by decide, by decide⟩, ⟨1, rfl, by decide⟩, by decide, ?_⟩
  intro n o ho
  simp only [layG, strG, newG, upd] at ho
  by_cases h2 : n = 2
  · subst h2
    cases ho
    decide
  · rw [if_neg h2] at ho
    repeat' split at ho
    all_goals first
      | (cases ho; done)
      | (cases ho; simp [most, gcO]; done)

theorem metaMarks (F : MeT tbl) (h10 : tbl 10 = some cf10) (h61 : tbl 61 = some ⟨.skip, [], some (.bool true)⟩) {M : Mem} {sv : AV} {l : List Nat} (hs : SlIs M sv 1 (U8L l)) :
    CallW tbl 10 (.cons sv .nil) M fun r _ => r = .ret (.bool true) := by
  refine CallW.wf fun hw => ?_
  refine CallW.intro h10 rfl (fr := .nod (.val .leaf sv .leaf) .leaf) rfl ?_
  have tail := fun (hp sp mp pb gb : Pos) (G : Hp) (fr : Tr AV) (M2 : Mem) (h : M2.wf) (S : LW M M2 (P0 M sp mp pb gb) hp sp mp pb gb G) (O : OW G 4 0 2)
    (f1 : fr.get (.o .h) = some sv) (f2 : fr.get (.i (.o .h)) = some (.ptr hp 0)) (f3 : fr.get (.o (.i .h)) = some (.ptr sp 0)) (f4 : fr.get (.i (.i .h)) = some (.ptr pb 0)) (f5 : fr.get (.o (.o (.o .h))) = some (.ptr gb 0)) (f6 : fr.get (.i (.o (.o .h))) = some (.int 3 0)) => me_b0 F h61 hs hw h S O f1 f2 f3 f4 f5 f6
  rw [mbody0]
  generalize seqTail 7 cf10.body = tl at *
  simp only [go_sem, cf10, seqHead, seqTail]
  refine (heapnew_spec F.h40 F.h84 (P := fun p => p.num < M.next.num) (fun _ h => h)).use ?_
  rintro r M1 hw1 ⟨hp, rfl, hH1, c1, hlt⟩
  simp only [go_sem]
  refine (strnew_ok F (hp := hp)).use ?_
  rintro r M2 hw2 ⟨rfl, hS2, c2⟩
  generalize hsp : M1.next.succ = sp at *
  generalize hmp : M1.next = mp at *
  have nsp : sp.num = mp.num + 1 := by rw [← hsp, Pos.num_succ]
  have hsm : sp ≠ mp := fun e => by rw [e] at nsp; omega
  have hH2 := (hH1.wide c2 (q := sp) (by rw [hmp]; omega) (hw2 _ _ hS2.1))
  have hm2 := hw2 _ _ hS2.2
  have hH2' : HeapIs M2 hp (fun p => (p.num < M.next.num ∨ p = sp) ∨ p = mp) G0 := by
    obtain ⟨own, Y, k1, k2, k3⟩ := hH1
    refine ⟨own, Y, k1, fun p hp => ?_, k3.quiet c2⟩
    have hn : ∀ q : Pos, mp.num ≤ q.num → own q = none := fun q hq => by
      cases ho : own q with
      | none => rfl
      | some s => have := k3.inn q (by rw [ho]; simp); rw [hmp] at this; omega
    rcases hp with (hp | rfl) | rfl
    · exact ⟨(k2 p hp).1, Nat.lt_of_lt_of_le (k2 p hp).2 c2.next⟩
    · exact ⟨hn _ (by omega), hw2 _ _ hS2.1⟩
    · exact ⟨hn _ (Nat.le_refl _), hm2⟩
  simp only [go_sem]
  refine (tnew_spec F.tb hH2' rfl (by decide)).use ?_
  rintro r M3 hw3 ⟨rfl, hH3, c3⟩
  have hS3 := hS2.but c3 (fun e => e (.inl (.inr rfl))) (fun e => e (.inr rfl))
  have hg0 : G0.next = 1 := rfl
  have hg1 : (newG G0).next = 2 := rfl
  simp only [go_sem, VlA, hg0]
  have hH3' : HeapIs M3 hp (fun p => (p.num < M.next.num ∨ p = sp) ∨ p = mp) (newG G0) := hH3
  refine (tnew_spec F.tb hH3' rfl (by decide)).use ?_
  rintro r M4 hw4 ⟨rfl, hH4, c4⟩
  have hS4 := hS3.but c4 (fun e => e (.inl (.inr rfl))) (fun e => e (.inr rfl))
  have hH4' : HeapIs M4 hp (fun p => (p.num < M.next.num ∨ p = sp) ∨ p = mp) (newG (newG G0)) := hH4
  simp only [go_sem, VlA, hg1]
  have nsu : M4.next.succ.num = M4.next.num + 1 := Pos.num_succ _
  have b5 : But (fun _ => False) M4 ((((M4.new (.cells [.int 3 0, .int 3 0] false)).new (.cells [.int 3 0, .int 3 0] false)).put M4.next (.cells [.int 3 6, .int 3 1] false)).put M4.next.succ (.cells [.int 3 6, .int 3 2] false)) := by
    have t1 := But.new (S := fun _ => False) hw4 (.cells [.int 3 0, .int 3 0] false)
    have t2 := But.new (S := fun _ => False) (hw4.new (.cells [.int 3 0, .int 3 0] false)) (.cells [.int 3 0, .int 3 0] false)
    have t3 : But (fun p => False ∨ M4.next.num ≤ p.num) ((M4.new (.cells [.int 3 0, .int 3 0] false)).new (.cells [.int 3 0, .int 3 0] false)) ((((M4.new (.cells [.int 3 0, .int 3 0] false)).new (.cells [.int 3 0, .int 3 0] false)).put M4.next (.cells [.int 3 6, .int 3 1] false)).put M4.next.succ (.cells [.int 3 6, .int 3 2] false)) := (But.put (p := M4.next) _ (.inr (Nat.le_refl _)) _).trans (But.put (p := M4.next.succ) _ (.inr (by omega)) _)
    exact But.fresh hw4 (((t1.trans t2).any _).trans t3)
  have x1 : ((M4.new (.cells [.int 3 0, .int 3 0] false)).new (.cells [.int 3 0, .int 3 0] false)).get M4.next = some (.cells [.int 3 0, .int 3 0] false) := by simp only [go_sem]
  have x2 : (((M4.new (.cells [.int 3 0, .int 3 0] false)).new (.cells [.int 3 0, .int 3 0] false)).put M4.next (.cells [.int 3 6, .int 3 1] false)).get M4.next.succ = some (.cells [.int 3 0, .int 3 0] false) := by simp only [go_sem]
  have w5 : (((((M4.new (.cells [.int 3 0, .int 3 0] false)).new (.cells [.int 3 0, .int 3 0] false)).put M4.next (.cells [.int 3 6, .int 3 1] false)).put M4.next.succ (.cells [.int 3 6, .int 3 2] false))).wf := (((hw4.new (.cells [.int 3 0, .int 3 0] false)).new (.cells [.int 3 0, .int 3 0] false)).put x1 _).put x2 _
  have xp : (((((M4.new (.cells [.int 3 0, .int 3 0] false)).new (.cells [.int 3 0, .int 3 0] false)).put M4.next (.cells [.int 3 6, .int 3 1] false)).put M4.next.succ (.cells [.int 3 6, .int 3 2] false))).get M4.next = some (.cells [.int 3 6, .int 3 1] false) := by simp only [go_sem]
  have xg : (((((M4.new (.cells [.int 3 0, .int 3 0] false)).new (.cells [.int 3 0, .int 3 0] false)).put M4.next (.cells [.int 3 6, .int 3 1] false)).put M4.next.succ (.cells [.int 3 6, .int 3 2] false))).get M4.next.succ = some (.cells [.int 3 6, .int 3 2] false) := by simp only [go_sem]
  have hnx : (((((M4.new (.cells [.int 3 0, .int 3 0] false)).new (.cells [.int 3 0, .int 3 0] false)).put M4.next (.cells [.int 3 6, .int 3 1] false)).put M4.next.succ (.cells [.int 3 6, .int 3 2] false))).next = M4.next.succ.succ := rfl
  have hS5 := hS4.but b5 id id
  generalize hM5 : ((((M4.new (.cells [.int 3 0, .int 3 0] false)).new (.cells [.int 3 0, .int 3 0] false)).put M4.next (.cells [.int 3 6, .int 3 1] false)).put M4.next.succ (.cells [.int 3 6, .int 3 2] false)) = M5 at *
  have nsu2 : M4.next.succ.succ.num = M4.next.num + 2 := by rw [Pos.num_succ, nsu]
  have hH5 : HeapIs M5 hp (fun p => (((p.num < M.next.num ∨ p = sp) ∨ p = mp) ∨ p = M4.next) ∨ p = M4.next.succ) (newG (newG G0)) := by
    obtain ⟨own, Y, k1, k2, k3⟩ := hH4'
    refine ⟨own, Y, k1, fun p hp => ?_, k3.quiet b5⟩
    have hn : ∀ q : Pos, M4.next.num ≤ q.num → own q = none := fun q hq => by
      cases ho : own q with
      | none => rfl
      | some s => have := k3.inn q (by rw [ho]; simp); omega
    rcases hp with (hp | rfl) | rfl
    · exact ⟨(k2 p hp).1, Nat.lt_of_lt_of_le (k2 p hp).2 b5.next⟩
    · exact ⟨hn _ (Nat.le_refl _), by rw [hnx]; omega⟩
    · exact ⟨hn _ (by omega), by rw [hnx]; omega⟩
  refine (in_ok F 1).use ?_
  rintro r M6 hw6 ⟨rfl, b6⟩
  have hS6 := hS5.but b6 id id
  have xp6 := b6.get _ _ id xp
  have xg6 := b6.get _ _ id xg
  simp only [go_sem, VlA, xg6, xg]
  have hT2 : HasT (newG (newG G0)) 2 T1 := ⟨by decide, ⟨_, rfl, rfl, rfl⟩, tb1⟩
  refine (named_ok F hS6 hsm (hH5.quiet b6) (.inl (.inl (.inl (.inr rfl)))) (.inl (.inl (.inr rfl))) rfl rfl rfl hT2).use ?_
  rintro r M7 hw7 ⟨rfl, hH7, hS7, b7⟩
  simp only [go_sem]
  have hmp0 : M.next.num ≤ mp.num := by rw [← hmp]; exact c1.next
  have hb : But (fun _ => False) M M7 := by
    have d34 : ∀ p : Pos, ¬ ((p.num < M.next.num ∨ p = sp) ∨ p = mp) → False ∨ M.next.num ≤ p.num := fun p h => .inr (by
      by_cases e : p.num < M.next.num
      · exact absurd (.inl (.inl e)) h
      · omega)
    have d7 : ∀ p : Pos, (¬ ((((p.num < M.next.num ∨ p = sp) ∨ p = mp) ∨ p = M4.next) ∨ p = M4.next.succ) ∨ p = mp) → False ∨ M.next.num ≤ p.num := fun p h => .inr (by
      rcases h with h | h
      · by_cases e : p.num < M.next.num
        · exact absurd (.inl (.inl (.inl (.inl e)))) h
        · omega
      · rw [h]; exact hmp0)
    exact But.fresh hw (((((c1.trans c2).any _).trans (c3.mono d34)).trans (c4.mono d34)).trans (((b5.trans b6).any _).trans (b7.mono d7)))
  have S : LW M M7 (P0 M sp mp M4.next M4.next.succ) hp sp mp M4.next M4.next.succ (layG (strG (newG (newG G0))) 2 T2.slots) := by
    refine ⟨hH7.less fun p hp => ?_, hS7, ?_, ?_, hb.old, fun p hp => .inl hp, .inr (.inl rfl), .inr (.inr (.inl rfl)), .inr (.inr (.inr (.inl rfl))), .inr (.inr (.inr (.inr rfl)))⟩
    · rcases hp with h | h | h | h | h
      · exact .inl (.inl (.inl (.inl h)))
      · exact .inl (.inl (.inl (.inr h)))
      · exact .inl (.inl (.inr h))
      · exact .inl (.inr h)
      · exact .inr h
    · exact b7.get _ _ (fun h => h.elim (fun e => e (.inl (.inr rfl))) fun e => by have := hw4 _ _ hS4.2; rw [← e] at this; omega) xp6
    · exact b7.get _ _ (fun h => h.elim (fun e => e (.inr rfl)) fun e => by have := hw4 _ _ hS4.2; rw [← e] at this; omega) xg6
  exact tail hp sp mp M4.next M4.next.succ _ _ M7 hw7 S ow0 rfl rfl rfl rfl rfl rfl

theorem bytes_of : ∀ {xs : List (List AV)}, (∀ x ∈ xs, okRow [.i .u8] x) → ∃ l : List Nat, xs = U8L l
  | [], _ => ⟨[], rfl⟩
  | x :: r, h => by
    obtain ⟨l, rfl⟩ := bytes_of (xs := r) fun y hy => h y (List.mem_cons_of_mem _ hy)
    have hx := h x List.mem_cons_self
    rcases x with _ | ⟨a, _ | ⟨b, t⟩⟩
    · exact hx.elim
    · obtain ⟨⟨k, rfl, hk⟩, _⟩ := hx
      have h0 : 0 ≤ k := by
        simp only [Lit.wf, IntKind.min, IntKind.signed, Bool.and_eq_true, decide_eq_true_eq] at hk
        simpa using hk.1
      exact ⟨k.toNat :: l, by simp [U8L, codeOf, Int.toNat_of_nonneg h0]⟩
    · exact hx.2.elim

theorem marks_arg (F : MeT tbl) (h10 : tbl 10 = some cf10) {cw : CFunc} (h61 : tbl 61 = some cw) (hcw : cw = ⟨.skip, [], some (.bool true)⟩) {W : World} {v : Value} {sv : AV} {len : Nat} {xs : List (List AV)}
    (h : ArgSl [.i .u8] W v sv len xs) :
    CallW tbl 10 (.cons sv .nil) (argM (argO sv xs)) fun r _ => r = .ret (.bool true) := by
  subst hcw
  obtain ⟨l, rfl⟩ := bytes_of h.okRows
  have hr := h.rows
  exact metaMarks (l := l.take len) F h10 h61 (by simpa [U8L, List.map_take] using hr)
end Go.Proofs.Ythpnhdopheofcaa

end
