import Derived.Test.YthpnhdopheofcaaTt
import Derived.Test.YthpnhdopheofcaaDxCut
import Derived.Test.YthpnhdopheofcaaDxCpy
set_option linter.unusedSimpArgs false
set_option linter.unusedVariables false
section
namespace Go.Proofs.Ythpnhdopheofcaa
open Go.Dx
variable {tbl : Nat → Option CFunc}

/-- None of the values is what a function asks. -/
theorem index_none0 (h : tbl 145 = some cf145) {g : Nat} {M : Mem} {sv : AV} {l : List Vl} (hs : SlIs M sv 2 (VlL l)) (hl : l.length < 2 ^ 62) (hcall : ∀ v ∈ l, ∀ M', M'.wf → But (fun _ => False) M M' → CallW tbl g (.cons (VlA v) .nil) M' fun r M'' => r = .ret (.bool false) ∧ But (fun _ => False) M' M'') :
    CallW tbl 145 (.cons sv (.cons (.func (.func g) .nil .nil) .nil)) M fun r M' => r = .ret (.int 3 (-1)) ∧ But (fun _ => False) M M' := by
  refine CallW.wf fun hw => ?_
  refine CallW.intro h rfl (fr := .nod (.val .leaf sv .leaf) (.val .leaf (.func (.func g) .nil .nil) .leaf)) rfl ?_
  have hlen := hs.len
  rw [vlL_len] at hlen
  simp only [go_sem, reduceCtorEq, Nat.reduceEqDiff, Nat.reduceAdd, Nat.reduceMul, Nat.reduceLeDiff, Nat.reduceSub, Nat.reduceLT, Nat.reduceBEq, Nat.reduceBNe, Int.reduceBEq, Int.reduceBNe, Int.reduceLT, Int.reduceLE, Int.reduceAdd, Int.reduceEq, Int.reduceNe, beq_self_eq_true, bne_self_eq_false, decide_true, decide_false, Bool.not_true, Bool.not_false, Bool.false_eq_true, false_and, and_false, not_true_eq_false, not_false_eq_true, cf145, hlen]
  refine loop_wp (I := fun n fr M' => n ≤ l.length ∧ M'.wf ∧ But (fun _ => False) M M' ∧ fr.get (.o .h) = some sv ∧ fr.get (.i .h) = some (.func (.func g) .nil .nil) ∧ fr.get (.i (.o (.o .h))) = some (.int 3 l.length) ∧ fr.get (.o (.i (.o .h))) = some (.int 3 ((l.length - n : Nat) : Int))) (n := l.length) ?_ ?_
  · exact ⟨Nat.le_refl _, hw, But.refl _ _, rfl, rfl, rfl, by rw [Nat.sub_self]; rfl⟩
  · rintro n fr M' ⟨i1, i2, i3, f1, f2, f3, f4⟩
    cases n with
    | zero =>
      have g1 : decide (((l.length - 0 : Nat) : Int) < (l.length : Int)) = false := by simp only [decide_eq_false_iff_not]; omega
      simp only [go_sem, reduceCtorEq, Nat.reduceEqDiff, Nat.reduceAdd, Nat.reduceMul, Nat.reduceLeDiff, Nat.reduceSub, Nat.reduceLT, Nat.reduceBEq, Nat.reduceBNe, Int.reduceBEq, Int.reduceBNe, Int.reduceLT, Int.reduceLE, Int.reduceAdd, Int.reduceEq, Int.reduceNe, beq_self_eq_true, bne_self_eq_false, decide_true, decide_false, Bool.not_true, Bool.not_false, Bool.false_eq_true, false_and, and_false, not_true_eq_false, not_false_eq_true, f1, f2, f3, f4, g1]
      exact i3
    | succ n =>
      have g1 : decide (((l.length - (n + 1) : Nat) : Int) < (l.length : Int)) = true := by simp only [decide_eq_true_eq]; omega
      have hi : l.length - (n + 1) < l.length := by omega
      obtain ⟨p, po, a1, a2⟩ := (hs.old i3.old).at_ (i := l.length - (n + 1)) (by rw [vlL_len]; exact hi)
      rw [vlL_len] at a1
      have a3 : (VlL l)[l.length - (n + 1)]? = some (VlR l[l.length - (n + 1)]) := by simp [VlL, hi]
      rw [a3] at a2
      simp only [VlR] at a2
      simp only [go_sem, reduceCtorEq, Nat.reduceEqDiff, Nat.reduceAdd, Nat.reduceMul, Nat.reduceLeDiff, Nat.reduceSub, Nat.reduceLT, Nat.reduceBEq, Nat.reduceBNe, Int.reduceBEq, Int.reduceBNe, Int.reduceLT, Int.reduceLE, Int.reduceAdd, Int.reduceEq, Int.reduceNe, beq_self_eq_true, bne_self_eq_false, decide_true, decide_false, Bool.not_true, Bool.not_false, Bool.false_eq_true, false_and, and_false, not_true_eq_false, not_false_eq_true, f1, f2, f3, f4, g1, a1, a2, hi]
      refine (hcall l[l.length - (n + 1)] (List.getElem_mem hi) M' i2 i3).use ?_
      rintro r M2 hw2 ⟨rfl, b2⟩
      have e1 : IntKind.i64.wrap (((l.length - (n + 1) : Nat) : Int) + 1) = ((l.length - n : Nat) : Int) := by rw [wrap64 (by omega) (by omega)]; omega
      simp only [go_sem, reduceCtorEq, Nat.reduceEqDiff, Nat.reduceAdd, Nat.reduceMul, Nat.reduceLeDiff, Nat.reduceSub, Nat.reduceLT, Nat.reduceBEq, Nat.reduceBNe, Int.reduceBEq, Int.reduceBNe, Int.reduceLT, Int.reduceLE, Int.reduceAdd, Int.reduceEq, Int.reduceNe, beq_self_eq_true, bne_self_eq_false, decide_true, decide_false, Bool.not_true, Bool.not_false, Bool.false_eq_true, false_and, and_false, not_true_eq_false, not_false_eq_true, f1, f2, f3, f4, e1]
      exact ⟨n, by omega, by omega, hw2, i3.trans b2, by simp [Tr.get_set, f1], by simp [Tr.get_set, f2], by simp [Tr.get_set, f3], by rw [Tr.get_set]; rfl⟩

theorem contains_none0 (h : tbl 121 = some cf121) (h1 : tbl 145 = some cf145) {g : Nat} {M : Mem} {sv : AV} {l : List Vl} (hs : SlIs M sv 2 (VlL l)) (hl : l.length < 2 ^ 62) (hcall : ∀ v ∈ l, ∀ M', M'.wf → But (fun _ => False) M M' → CallW tbl g (.cons (VlA v) .nil) M' fun r M'' => r = .ret (.bool false) ∧ But (fun _ => False) M' M'') :
    CallW tbl 121 (.cons sv (.cons (.func (.func g) .nil .nil) .nil)) M fun r M' => r = .ret (.bool false) ∧ But (fun _ => False) M M' := by
  refine CallW.intro h rfl (fr := .nod (.val .leaf sv .leaf) (.val .leaf (.func (.func g) .nil .nil) .leaf)) rfl ?_
  simp only [go_sem, reduceCtorEq, Nat.reduceEqDiff, Nat.reduceAdd, Nat.reduceMul, Nat.reduceLeDiff, Nat.reduceSub, Nat.reduceLT, Nat.reduceBEq, Nat.reduceBNe, Int.reduceBEq, Int.reduceBNe, Int.reduceLT, Int.reduceLE, Int.reduceAdd, Int.reduceEq, Int.reduceNe, beq_self_eq_true, bne_self_eq_false, decide_true, decide_false, Bool.not_true, Bool.not_false, Bool.false_eq_true, false_and, and_false, not_true_eq_false, not_false_eq_true, cf121]
  refine (index_none0 h1 hs hl hcall).use ?_
  rintro r M1 hw1 ⟨rfl, b1⟩
  have g1 : decide ((0 : Int) ≤ -1) = false := rfl
  simp only [go_sem, reduceCtorEq, Nat.reduceEqDiff, Nat.reduceAdd, Nat.reduceMul, Nat.reduceLeDiff, Nat.reduceSub, Nat.reduceLT, Nat.reduceBEq, Nat.reduceBNe, Int.reduceBEq, Int.reduceBNe, Int.reduceLT, Int.reduceLE, Int.reduceAdd, Int.reduceEq, Int.reduceNe, beq_self_eq_true, bne_self_eq_false, decide_true, decide_false, Bool.not_true, Bool.not_false, Bool.false_eq_true, false_and, and_false, not_true_eq_false, not_false_eq_true, g1]
  first | exact b1 | exact ⟨rfl, b1⟩


def placedV (v : Vl) (n : Int) : Bool := decide (v.k = 3) && (decide (1 ≤ v.n) && decide (v.n ≤ n))
theorem placed_spec (h : tbl 128 = some cf128) {M : Mem} (v : Vl) (n : Int) : CallW tbl 128 (.cons (VlA v) (.cons (.int 3 n) .nil)) M fun r M' => r = .ret (.bool (placedV v n)) ∧ But (fun _ => False) M M' := by
  refine CallW.wf fun hw => ?_
  obtain ⟨vk, vn⟩ := v
  refine CallW.intro h rfl (fr := .nod (.val .leaf (VlA ⟨vk, vn⟩) .leaf) (.val .leaf (.int 3 n) .leaf)) rfl ?_
  have b1 := But.new (S := fun _ => False) hw (.cells [.int 3 vk, .int 3 vn] false)
  by_cases hk : vk = 3
  · have g1 : (vk == 3) = true := by simp [hk]
    by_cases h1 : 1 ≤ vn
    · have g2 : decide (1 ≤ vn) = true := by simp [h1]
      simp only [go_sem, reduceCtorEq, Nat.reduceEqDiff, Nat.reduceAdd, Nat.reduceMul, Nat.reduceLeDiff, Nat.reduceSub, Nat.reduceLT, Nat.reduceBEq, Nat.reduceBNe, Int.reduceBEq, Int.reduceBNe, Int.reduceLT, Int.reduceLE, Int.reduceAdd, Int.reduceEq, Int.reduceNe, beq_self_eq_true, bne_self_eq_false, decide_true, decide_false, Bool.not_true, Bool.not_false, Bool.false_eq_true, false_and, and_false, not_true_eq_false, not_false_eq_true, cf128, VlA, g1, g2]
      first | exact ⟨by simp [placedV, hk, h1], b1⟩ | exact b1
    · have g2 : decide (1 ≤ vn) = false := by simp [h1]
      simp only [go_sem, reduceCtorEq, Nat.reduceEqDiff, Nat.reduceAdd, Nat.reduceMul, Nat.reduceLeDiff, Nat.reduceSub, Nat.reduceLT, Nat.reduceBEq, Nat.reduceBNe, Int.reduceBEq, Int.reduceBNe, Int.reduceLT, Int.reduceLE, Int.reduceAdd, Int.reduceEq, Int.reduceNe, beq_self_eq_true, bne_self_eq_false, decide_true, decide_false, Bool.not_true, Bool.not_false, Bool.false_eq_true, false_and, and_false, not_true_eq_false, not_false_eq_true, cf128, VlA, g1, g2]
      first | exact ⟨by simp [placedV, hk, h1], b1⟩ | exact b1
  · have g1 : (vk == 3) = false := by simp [hk]
    simp only [go_sem, reduceCtorEq, Nat.reduceEqDiff, Nat.reduceAdd, Nat.reduceMul, Nat.reduceLeDiff, Nat.reduceSub, Nat.reduceLT, Nat.reduceBEq, Nat.reduceBNe, Int.reduceBEq, Int.reduceBNe, Int.reduceLT, Int.reduceLE, Int.reduceAdd, Int.reduceEq, Int.reduceNe, beq_self_eq_true, bne_self_eq_false, decide_true, decide_false, Bool.not_true, Bool.not_false, Bool.false_eq_true, false_and, and_false, not_true_eq_false, not_false_eq_true, cf128, VlA, g1]
    first | exact ⟨by simp [placedV, hk], b1⟩ | exact b1

def nullV (v : Vl) : Bool := decide (v = ⟨1, 0⟩)
theorem null_spec' (h : tbl 129 = some cf129) {M : Mem} (v : Vl) : CallW tbl 129 (.cons (VlA v) .nil) M fun r M' => r = .ret (.bool (nullV v)) ∧ But (fun _ => False) M M' := by
  refine CallW.wf fun hw => ?_
  obtain ⟨vk, vn⟩ := v
  refine CallW.intro h rfl (fr := .nod (.val .leaf (VlA ⟨vk, vn⟩) .leaf) .leaf) rfl ?_
  have b1 := But.new (S := fun _ => False) hw (.cells [.int 3 vk, .int 3 vn] false)
  have e : (((vk == 1) && (vn == 0)) != false) = nullV ⟨vk, vn⟩ := by
    simp only [nullV, Vl.mk.injEq]
    by_cases h1 : vk = 1 <;> by_cases h2 : vn = 0 <;> simp [h1, h2]
  simp only [go_sem, reduceCtorEq, Nat.reduceEqDiff, Nat.reduceAdd, Nat.reduceMul, Nat.reduceLeDiff, Nat.reduceSub, Nat.reduceLT, Nat.reduceBEq, Nat.reduceBNe, Int.reduceBEq, Int.reduceBNe, Int.reduceLT, Int.reduceLE, Int.reduceAdd, Int.reduceEq, Int.reduceNe, beq_self_eq_true, bne_self_eq_false, decide_true, decide_false, Bool.not_true, Bool.not_false, Bool.false_eq_true, false_and, and_false, not_true_eq_false, not_false_eq_true, cf129, VlA, e]
  first | exact b1 | exact ⟨rfl, b1⟩

theorem bad_spec (h : tbl 146 = some cf146) (h117 : tbl 117 = some cf117) (h143 : tbl 143 = some cf143) {M : Mem} {v : Vl} (hm : mayV v = true) (hk : v.k ≠ 0) : CallW tbl 146 (.cons (VlA v) .nil) M fun r M' => r = .ret (.bool false) ∧ But (fun _ => False) M M' := by
  refine CallW.wf fun hw => ?_
  obtain ⟨vk, vn⟩ := v
  refine CallW.intro h rfl (fr := .nod (.val .leaf (VlA ⟨vk, vn⟩) .leaf) .leaf) rfl ?_
  have b1 := But.new (S := fun _ => False) hw (.cells [.int 3 vk, .int 3 vn] false)
  have x1 : (M.new (.cells [.int 3 vk, .int 3 vn] false)).get M.next = some (.cells [.int 3 vk, .int 3 vn] false) := by simp only [go_sem, reduceCtorEq, Nat.reduceEqDiff, Nat.reduceAdd, Nat.reduceMul, Nat.reduceLeDiff, Nat.reduceSub, Nat.reduceLT, Nat.reduceBEq, Nat.reduceBNe, Int.reduceBEq, Int.reduceBNe, Int.reduceLT, Int.reduceLE, Int.reduceAdd, Int.reduceEq, Int.reduceNe, beq_self_eq_true, bne_self_eq_false, decide_true, decide_false, Bool.not_true, Bool.not_false, Bool.false_eq_true, false_and, and_false, not_true_eq_false, not_false_eq_true]
  simp only [go_sem, reduceCtorEq, Nat.reduceEqDiff, Nat.reduceAdd, Nat.reduceMul, Nat.reduceLeDiff, Nat.reduceSub, Nat.reduceLT, Nat.reduceBEq, Nat.reduceBNe, Int.reduceBEq, Int.reduceBNe, Int.reduceLT, Int.reduceLE, Int.reduceAdd, Int.reduceEq, Int.reduceNe, beq_self_eq_true, bne_self_eq_false, decide_true, decide_false, Bool.not_true, Bool.not_false, Bool.false_eq_true, false_and, and_false, not_true_eq_false, not_false_eq_true, cf146, VlA]
  refine (may_spec h117 h143 (v := ⟨vk, vn⟩)).use ?_
  rintro r M1 hw1 ⟨rfl, b2⟩
  have x2 := b2.get _ _ id x1
  have g : (vk == 0) = false := by simpa using hk
  simp only [go_sem, reduceCtorEq, Nat.reduceEqDiff, Nat.reduceAdd, Nat.reduceMul, Nat.reduceLeDiff, Nat.reduceSub, Nat.reduceLT, Nat.reduceBEq, Nat.reduceBNe, Int.reduceBEq, Int.reduceBNe, Int.reduceLT, Int.reduceLE, Int.reduceAdd, Int.reduceEq, Int.reduceNe, beq_self_eq_true, bne_self_eq_false, decide_true, decide_false, Bool.not_true, Bool.not_false, Bool.false_eq_true, false_and, and_false, not_true_eq_false, not_false_eq_true, hm, x2, g]
  first | exact b1.trans b2 | exact ⟨rfl, b1.trans b2⟩
end Go.Proofs.Ythpnhdopheofcaa

end
section
namespace Go.Proofs.Ythpnhdopheofcaa
open Go.Dx
variable {tbl : Nat → Option CFunc}

theorem key_spec (h : tbl 125 = some cf125) (h117 : tbl 117 = some cf117) (h143 : tbl 143 = some cf143) {M : Mem} (v : Vl) : CallW tbl 125 (.cons (VlA v) .nil) M fun r M' => r = .ret (.bool (keyV v)) ∧ But (fun _ => False) M M' := by
  refine CallW.wf fun hw => ?_
  obtain ⟨vk, vn⟩ := v
  refine CallW.intro h rfl (fr := .nod (.val .leaf (VlA ⟨vk, vn⟩) .leaf) .leaf) rfl ?_
  have b1 := But.new (S := fun _ => False) hw (.cells [.int 3 vk, .int 3 vn] false)
  by_cases hk : 1 < vk
  · have g1 : decide (1 < vk) = true := by simp [hk]
    simp only [go_sem, reduceCtorEq, Nat.reduceEqDiff, Nat.reduceAdd, Nat.reduceMul, Nat.reduceLeDiff, Nat.reduceSub, Nat.reduceLT, Nat.reduceBEq, Nat.reduceBNe, Int.reduceBEq, Int.reduceBNe, Int.reduceLT, Int.reduceLE, Int.reduceAdd, Int.reduceEq, Int.reduceNe, beq_self_eq_true, bne_self_eq_false, decide_true, decide_false, Bool.not_true, Bool.not_false, Bool.false_eq_true, false_and, and_false, not_true_eq_false, not_false_eq_true, cf125, VlA, g1]
    refine (may_spec h117 h143 (v := ⟨vk, vn⟩)).use ?_
    rintro r M1 hw1 ⟨rfl, b2⟩
    simp only [go_sem, reduceCtorEq, Nat.reduceEqDiff, Nat.reduceAdd, Nat.reduceMul, Nat.reduceLeDiff, Nat.reduceSub, Nat.reduceLT, Nat.reduceBEq, Nat.reduceBNe, Int.reduceBEq, Int.reduceBNe, Int.reduceLT, Int.reduceLE, Int.reduceAdd, Int.reduceEq, Int.reduceNe, beq_self_eq_true, bne_self_eq_false, decide_true, decide_false, Bool.not_true, Bool.not_false, Bool.false_eq_true, false_and, and_false, not_true_eq_false, not_false_eq_true]
    exact ⟨by simp [keyV, hk], b1.trans b2⟩
  · have g1 : decide (1 < vk) = false := by simp [hk]
    simp only [go_sem, reduceCtorEq, Nat.reduceEqDiff, Nat.reduceAdd, Nat.reduceMul, Nat.reduceLeDiff, Nat.reduceSub, Nat.reduceLT, Nat.reduceBEq, Nat.reduceBNe, Int.reduceBEq, Int.reduceBNe, Int.reduceLT, Int.reduceLE, Int.reduceAdd, Int.reduceEq, Int.reduceNe, beq_self_eq_true, bne_self_eq_false, decide_true, decide_false, Bool.not_true, Bool.not_false, Bool.false_eq_true, false_and, and_false, not_true_eq_false, not_false_eq_true, cf125, VlA, g1]
    first | exact ⟨by simp [keyV, hk], b1⟩ | exact b1

/-- Values as keys. -/
theorem goodVl : GoodK (.flat [.int, .int]) (fun a => ∃ v, a = VlA v) where
  same := by rintro a ⟨⟨k, n⟩, rfl⟩; simp [eqKey, VlA, eqFlat, eqLeaf]
  other := by
    rintro a b ⟨⟨k, n⟩, rfl⟩ ⟨⟨k', n'⟩, rfl⟩ hne
    have : ¬ (k = k' ∧ n = n') := fun ⟨e1, e2⟩ => hne (by rw [e1, e2])
    by_cases e : k = k'
    · have e' : n ≠ n' := fun h => this ⟨e, h⟩
      have q : (n == n') = false := by simpa using e'
      have q0 : (k == k') = true := by simpa using e
      simp only [eqKey, VlA, eqFlat, eqLeaf, q, q0, if_true]
    · have q : (k == k') = false := by simpa using e
      simp only [eqKey, VlA, eqFlat, eqLeaf, q, if_true]

/-- A table. -/
structure Tb where
  met : Vl
  arr : List Vl
  prs : List (Vl × Vl)
def flatP (l : List (Vl × Vl)) : List Vl := l.flatMap fun x => [x.1, x.2]
theorem flatP_len (l : List (Vl × Vl)) : (flatP l).length = 2 * l.length := by
  induction l with
  | nil => rfl
  | cons x l ih => show (x.1 :: x.2 :: flatP l).length = _; simp only [List.length_cons, ih]; omega
theorem flatP_key (l : List (Vl × Vl)) {i : Nat} (hi : i < l.length) : (flatP l)[2 * i]? = some l[i].1 := by
  induction l generalizing i with
  | nil => simp at hi
  | cons x l ih =>
    show (x.1 :: x.2 :: flatP l)[2 * i]? = _
    cases i with
    | zero => rfl
    | succ i =>
      have e : 2 * (i + 1) = (2 * i + 1) + 1 := by omega
      rw [e, List.getElem?_cons_succ, List.getElem?_cons_succ]
      simpa using ih (by simpa using hi)
theorem flatP_val (l : List (Vl × Vl)) {i : Nat} (hi : i < l.length) : (flatP l)[2 * i + 1]? = some l[i].2 := by
  induction l generalizing i with
  | nil => simp at hi
  | cons x l ih =>
    show (x.1 :: x.2 :: flatP l)[2 * i + 1]? = _
    cases i with
    | zero => rfl
    | succ i =>
      have e : 2 * (i + 1) + 1 = (2 * i + 1 + 1) + 1 := by omega
      rw [e, List.getElem?_cons_succ, List.getElem?_cons_succ]
      simpa using ih (by simpa using hi)
def Tb.slots (T : Tb) : List Vl := T.met :: ⟨3, (T.arr.length : Int)⟩ :: (T.arr ++ flatP T.prs)

structure TbOk (T : Tb) : Prop where
  may : ∀ v ∈ T.slots, mayV v = true ∧ v.k ≠ 0
  met : T.met = ⟨1, 0⟩ ∨ T.met.k = 6
  last : ∀ v, T.arr.getLast? = some v → v ≠ ⟨1, 0⟩
  once : (T.prs.map (·.1)).Nodup
  key : ∀ x ∈ T.prs, keyV x.1 = true ∧ x.2 ≠ ⟨1, 0⟩ ∧ placedV x.1 ((T.arr.length : Int) + 1) = false
  len : T.slots.length ≤ 2 ^ 20

/-- Where a key's pair stands. -/
def posP (l : List (Vl × Vl)) (v : Vl) : Option Nat := l.findIdx? fun x => x.1 = v
def unV : AV → Option Vl
  | .agg (.cons (.int 3 k) (.cons (.int 3 n) .nil)) => some ⟨k, n⟩
  | _ => none
theorem unV_of (v : Vl) : unV (VlA v) = some v := rfl
/-- What a table's map says of its first pairs. -/
def posF (l : List (Vl × Vl)) (a : AV) : Option AV := (unV a).bind fun v => (posP l v).map fun i => .int 3 ((2 * i : Nat) : Int)
end Go.Proofs.Ythpnhdopheofcaa

end
section
namespace Go.Proofs.Ythpnhdopheofcaa
open Go.Dx
variable {tbl : Nat → Option CFunc}

structure DcT (tbl : Nat → Option CFunc) : Prop where
  h117 : tbl 117 = some cf117
  h121 : tbl 121 = some cf121
  h124 : tbl 124 = some cf124
  h125 : tbl 125 = some cf125
  h128 : tbl 128 = some cf128
  h129 : tbl 129 = some cf129
  h143 : tbl 143 = some cf143
  h145 : tbl 145 = some cf145
  h146 : tbl 146 = some cf146

theorem vl_at {M : Mem} {a : AV} {l : List Vl} (h : SlIs M a 2 (VlL l)) {i : Nat} (hi : i < l.length) : ∃ p o, slAt a = some (p, o, l.length) ∧ MB.cellsAt (M.get p) (o + i * 2) 2 = some [.int 3 l[i].k, .int 3 l[i].n] := by
  obtain ⟨p, o, h1, h2⟩ := h.at_ (i := i) (by rw [vlL_len]; exact hi)
  rw [vlL_len] at h1
  refine ⟨p, o, h1, ?_⟩
  rw [h2]
  simp [VlL, VlR, hi]

theorem slots_arr (T : Tb) : ((VlL T.slots).take (2 + T.arr.length)).drop 2 = VlL T.arr := by
  have e : VlL T.slots = [VlR T.met, VlR ⟨3, (T.arr.length : Int)⟩] ++ (VlL T.arr ++ VlL (flatP T.prs)) := by simp [Tb.slots, VlL]
  rw [e, List.take_append]
  have e1 : 2 + T.arr.length - [VlR T.met, VlR ⟨3, (T.arr.length : Int)⟩].length = (VlL T.arr).length := by rw [vlL_len]; show 2 + _ - 2 = _; omega
  rw [e1, List.take_left, List.take_of_length_le (by show 2 ≤ _; omega)]
  rfl
theorem slots_prs (T : Tb) : ((VlL T.slots).take T.slots.length).drop (2 + T.arr.length) = VlL (flatP T.prs) := by
  rw [List.take_of_length_le (by rw [vlL_len]; exact Nat.le_refl _)]
  have e : VlL T.slots = ([VlR T.met, VlR ⟨3, (T.arr.length : Int)⟩] ++ VlL T.arr) ++ VlL (flatP T.prs) := by simp [Tb.slots, VlL]
  rw [e]
  have e1 : 2 + T.arr.length = ([VlR T.met, VlR ⟨3, (T.arr.length : Int)⟩] ++ VlL T.arr).length := by rw [List.length_append, vlL_len]; rfl
  rw [e1, List.drop_left]

def seqTail : Nat → CCode → CCode
  | n + 1, .seq _ b => seqTail n b
  | _, c => c

def seqHead : CCode → CCode
  | .seq a _ => a
  | c => c
theorem body0 : cf124.body = .seq (seqHead cf124.body) (.seq (seqHead (seqTail 1 cf124.body)) (.seq (seqHead (seqTail 2 cf124.body)) (.seq (seqHead (seqTail 3 cf124.body)) (seqTail 4 cf124.body)))) := rfl
theorem body4 : seqTail 4 cf124.body = .seq (seqHead (seqTail 4 cf124.body)) (.seq (seqHead (seqTail 5 cf124.body)) (.seq (seqHead (seqTail 6 cf124.body)) (seqTail 7 cf124.body))) := rfl

theorem posP_take (l : List (Vl × Vl)) {n : Nat} (hn : n < l.length) (hd : (l.map (·.1)).Nodup) : posP (l.take n) (l[n]).1 = none := by
  rw [posP, List.findIdx?_eq_none_iff]
  intro x hx
  obtain ⟨i, hi, rfl⟩ := List.getElem_of_mem hx
  rw [List.length_take] at hi
  rw [List.getElem_take]
  simp only [decide_eq_false_iff_not]
  intro e
  have h1 : (l.map (·.1))[i]'(by rw [List.length_map]; omega) = (l.map (·.1))[n]'(by rw [List.length_map]; omega) := by simpa using e
  have := (List.getElem_inj hd).1 h1
  omega
theorem posF_step (l : List (Vl × Vl)) {n : Nat} (hn : n < l.length) (hd : (l.map (·.1)).Nodup) : ∀ a, (∃ v, a = VlA v) → updF (posF (l.take n)) (VlA l[n].1) (some (.int 3 ((2 * n : Nat) : Int))) a = posF (l.take (n + 1)) a := by
  rintro a ⟨v, rfl⟩
  have hp : posP (l.take (n + 1)) v = match posP (l.take n) v with | some i => some i | none => if l[n].1 = v then some n else none := by
    rw [List.take_succ_eq_append_getElem hn, posP, List.findIdx?_append]
    have hl : (l.take n).length = n := by rw [List.length_take]; omega
    cases h : List.findIdx? (fun x => decide (x.1 = v)) (l.take n) with
    | some i => simp [posP, h]
    | none =>
      simp only [posP, h, Option.none_or]
      by_cases e : l[n].1 = v
      · simp [List.findIdx?_cons, e, hl]
      · simp [List.findIdx?_cons, e]
  by_cases e : v = l[n].1
  · subst e
    rw [updF_same]
    simp only [posF, unV_of, Option.bind_some, hp, posP_take l hn hd, if_true, Option.map_some]
  · have hne : VlA v ≠ VlA l[n].1 := fun h => e (by have := congrArg unV h; simpa [unV_of] using this)
    rw [updF_ne _ _ hne]
    simp only [posF, unV_of, Option.bind_some, hp]
    have e' : ¬ (l[n].1 = v) := fun h => e h.symm
    cases posP (l.take n) v <;> simp [e']

theorem parts_tail2 (D : DcT tbl) {M : Mem} {va vp : AV} {T : Tb} {fr : Tr AV} {Q : CR → Mem → Prop} (hw : M.wf) (hT : TbOk T) (s1 : SlIs M va 2 (VlL T.arr)) (s2 : SlIs M vp 2 (VlL (flatP T.prs))) (f1 : fr.get (.o (.o .h)) = some va) (f2 : fr.get (.i (.o .h)) = some vp)
    (hQ : ∀ a p mp M', SlIs M' a 2 (VlL T.arr) → SlIs M' p 2 (VlL (flatP T.prs)) → But (fun _ => False) M M' → (∃ es c, M'.get mp = some (.map es c) ∧ MapIs (.flat [.int, .int]) (fun a => ∃ v, a = VlA v) es (posF T.prs)) → Q (.ret (.tuple (.cons a (.cons p (.cons (.map mp) (.cons (.bool true) .nil)))))) M') :
    CCode.wp tbl (seqTail 7 cf124.body) fr M (finW cf124.results Q) := by
  have hn : T.slots.length = T.arr.length + 2 * T.prs.length + 2 := by simp only [Tb.slots, List.length_cons, List.length_append, flatP_len]
  have hb := hT.len
  have l1 : slLen va = some T.arr.length := by rw [s1.len, vlL_len]
  have l2 : slLen vp = some (2 * T.prs.length) := by rw [s2.len, vlL_len, flatP_len]
  have b0 := But.new (S := fun _ => False) hw (.map .nil 0)
  have w0 := hw.new (.map .nil 0)
  have x0 : (M.new (.map .nil 0)).get M.next = some (.map .nil 0) := by simp only [go_sem, reduceCtorEq, Nat.reduceEqDiff, Nat.reduceAdd, Nat.reduceMul, Nat.reduceLeDiff, Nat.reduceSub, Nat.reduceLT, Nat.reduceBEq, Nat.reduceBNe, Int.reduceBEq, Int.reduceBNe, Int.reduceLT, Int.reduceLE, Int.reduceAdd, Int.reduceEq, Int.reduceNe, beq_self_eq_true, bne_self_eq_false, decide_true, decide_false, Bool.not_true, Bool.not_false, Bool.false_eq_true, false_and, and_false, not_true_eq_false, not_false_eq_true]
  simp only [go_sem, reduceCtorEq, Nat.reduceEqDiff, Nat.reduceAdd, Nat.reduceMul, Nat.reduceLeDiff, Nat.reduceSub, Nat.reduceLT, Nat.reduceBEq, Nat.reduceBNe, Int.reduceBEq, Int.reduceBNe, Int.reduceLT, Int.reduceLE, Int.reduceAdd, Int.reduceEq, Int.reduceNe, beq_self_eq_true, bne_self_eq_false, decide_true, decide_false, Bool.not_true, Bool.not_false, Bool.false_eq_true, false_and, and_false, not_true_eq_false, not_false_eq_true, cf124, seqTail]
  refine loop_wp (I := fun n fr M' => n ≤ T.prs.length ∧ M'.wf ∧ But (fun _ => False) M M' ∧ (∃ es c, M'.get M.next = some (.map es c) ∧ MapIs (.flat [.int, .int]) (fun a => ∃ v, a = VlA v) es (posF (T.prs.take (T.prs.length - n)))) ∧ fr.get (.o (.o .h)) = some va ∧ fr.get (.i (.o .h)) = some vp ∧ fr.get (.o (.i .h)) = some (.map M.next) ∧ fr.get (.o (.i (.o .h))) = some (.int 3 ((2 * (T.prs.length - n) : Nat) : Int))) (n := T.prs.length) ?_ ?_
  · refine ⟨Nat.le_refl _, w0, b0, ⟨.nil, 0, x0, ?_⟩, by simp [Tr.get_set, f1], by simp [Tr.get_set, f2], by simp [Tr.get_set], by rw [Nat.sub_self, Tr.get_set]; rfl⟩
    rw [Nat.sub_self]
    exact MapIs.nil.congr fun a ha => by obtain ⟨v, rfl⟩ := ha; simp [posF, unV_of, posP]
  · rintro n fr M' ⟨i1, i2, i3, ⟨es, c, i4, i5⟩, f1, f2, f3, f4⟩
    cases n with
    | zero =>
      have g : decide (((2 * (T.prs.length - 0) : Nat) : Int) < ((2 * T.prs.length : Nat) : Int)) = false := by simp only [decide_eq_false_iff_not]; omega
      rw [Nat.sub_zero, List.take_length] at i5
      simp only [go_sem, reduceCtorEq, Nat.reduceEqDiff, Nat.reduceAdd, Nat.reduceMul, Nat.reduceLeDiff, Nat.reduceSub, Nat.reduceLT, Nat.reduceBEq, Nat.reduceBNe, Int.reduceBEq, Int.reduceBNe, Int.reduceLT, Int.reduceLE, Int.reduceAdd, Int.reduceEq, Int.reduceNe, beq_self_eq_true, bne_self_eq_false, decide_true, decide_false, Bool.not_true, Bool.not_false, Bool.false_eq_true, false_and, and_false, not_true_eq_false, not_false_eq_true, f1, f2, f3, f4, l2, g]
      exact hQ _ _ _ _ (s1.old i3.old) (s2.old i3.old) i3 ⟨es, c, i4, i5⟩
    | succ n =>
      have g : decide (((2 * (T.prs.length - (n + 1)) : Nat) : Int) < ((2 * T.prs.length : Nat) : Int)) = true := by simp only [decide_eq_true_eq]; omega
      have hi : T.prs.length - (n + 1) < T.prs.length := by omega
      have hfl : (flatP T.prs).length = 2 * T.prs.length := flatP_len _
      obtain ⟨p, po, a1, a2⟩ := vl_at (s2.old i3.old) (i := 2 * (T.prs.length - (n + 1))) (by omega)
      rw [hfl] at a1
      have k1 := flatP_key T.prs hi
      rw [List.getElem?_eq_getElem (by omega)] at k1
      rw [Option.some.inj k1] at a2
      have hkey := hT.key _ (List.getElem_mem hi)
      have hstep := posF_step T.prs hi hT.once
      have hnone : posF (T.prs.take (T.prs.length - (n + 1))) (VlA (T.prs[T.prs.length - (n + 1)]).1) = none := by simp only [posF, unV_of, Option.bind_some, posP_take T.prs hi hT.once, Option.map_none]
      have k2 := flatP_val T.prs hi
      generalize hx : T.prs[T.prs.length - (n + 1)] = x at *
      obtain ⟨⟨xk, xn⟩, ⟨yk, yn⟩⟩ := x
      have hf := i5.find (VlA ⟨xk, xn⟩) ⟨_, rfl⟩
      rw [hnone] at hf
      simp only [VlA] at hf
      have g2 : 2 * (T.prs.length - (n + 1)) < 2 * T.prs.length := by omega
      have ne := i2.ne i4
      have hok : okKey (.flat [.int, .int]) (VlA ⟨xk, xn⟩) = true := MapIs.okKey goodVl ⟨_, rfl⟩
      simp only [VlA] at hok
      have b1 := But.fill i2 (.cells [.int 3 0, .int 3 0] false) (.cells [.int 3 xk, .int 3 xn] false)
      have w1 := i2.fill (.cells [.int 3 0, .int 3 0] false) (.cells [.int 3 xk, .int 3 xn] false)
      have x1 : ((M'.new (.cells [.int 3 0, .int 3 0] false)).put M'.next (.cells [.int 3 xk, .int 3 xn] false)).get M'.next = some (.cells [.int 3 xk, .int 3 xn] false) := by simp [Mem.put]
      simp only [go_sem, reduceCtorEq, Nat.reduceEqDiff, Nat.reduceAdd, Nat.reduceMul, Nat.reduceLeDiff, Nat.reduceSub, Nat.reduceLT, Nat.reduceBEq, Nat.reduceBNe, Int.reduceBEq, Int.reduceBNe, Int.reduceLT, Int.reduceLE, Int.reduceAdd, Int.reduceEq, Int.reduceNe, beq_self_eq_true, bne_self_eq_false, decide_true, decide_false, Bool.not_true, Bool.not_false, Bool.false_eq_true, false_and, and_false, not_true_eq_false, not_false_eq_true, f1, f2, f3, f4, l2, g, g2, a1, a2, i4, ne, hf, hok]
      refine (key_spec D.h125 D.h117 D.h143 ⟨xk, xn⟩).use ?_
      rintro r M2 hw2 ⟨rfl, b2⟩
      rw [hkey.1]
      have d2 := (i3.trans b1).trans b2
      obtain ⟨p', po', a1', a2'⟩ := vl_at (s2.old d2.old) (i := 2 * (T.prs.length - (n + 1)) + 1) (by omega)
      rw [hfl] at a1'
      rw [a1] at a1'
      cases a1'
      rw [List.getElem?_eq_getElem (by omega)] at k2
      rw [Option.some.inj k2] at a2'
      have g3 : 2 * (T.prs.length - (n + 1)) + 1 < 2 * T.prs.length := by omega
      have e1 : IntKind.i64.wrap (((2 * (T.prs.length - (n + 1)) : Nat) : Int) + 1) = ((2 * (T.prs.length - (n + 1)) + 1 : Nat) : Int) := by rw [wrap64 (by omega) (by omega)]; omega
      simp only [go_sem, reduceCtorEq, Nat.reduceEqDiff, Nat.reduceAdd, Nat.reduceMul, Nat.reduceLeDiff, Nat.reduceSub, Nat.reduceLT, Nat.reduceBEq, Nat.reduceBNe, Int.reduceBEq, Int.reduceBNe, Int.reduceLT, Int.reduceLE, Int.reduceAdd, Int.reduceEq, Int.reduceNe, beq_self_eq_true, bne_self_eq_false, decide_true, decide_false, Bool.not_true, Bool.not_false, Bool.false_eq_true, false_and, and_false, not_true_eq_false, not_false_eq_true, f1, f2, f4, e1, a1, g3, a2']
      refine (null_spec' D.h129 ⟨yk, yn⟩).use ?_
      rintro r M3 hw3 ⟨rfl, b3⟩
      have hnv : nullV ⟨yk, yn⟩ = false := by simp only [nullV, decide_eq_false_iff_not]; exact hkey.2.1
      rw [hnv]
      have x3 := (b2.trans b3).get _ _ id x1
      have e2 : IntKind.i64.wrap ((T.arr.length : Int) + 1) = (T.arr.length : Int) + 1 := wrap64 (by omega) (by omega)
      simp only [go_sem, reduceCtorEq, Nat.reduceEqDiff, Nat.reduceAdd, Nat.reduceMul, Nat.reduceLeDiff, Nat.reduceSub, Nat.reduceLT, Nat.reduceBEq, Nat.reduceBNe, Int.reduceBEq, Int.reduceBNe, Int.reduceLT, Int.reduceLE, Int.reduceAdd, Int.reduceEq, Int.reduceNe, beq_self_eq_true, bne_self_eq_false, decide_true, decide_false, Bool.not_true, Bool.not_false, Bool.false_eq_true, false_and, and_false, not_true_eq_false, not_false_eq_true, f1, x3, l1, e2]
      refine (placed_spec D.h128 ⟨xk, xn⟩ _).use ?_
      rintro r M4 hw4 ⟨rfl, b4⟩
      rw [hkey.2.2]
      have d4 := (d2.trans b3).trans b4
      have x4 := b4.get _ _ id x3
      have m4 := ((b1.trans b2).trans (b3.trans b4)).get _ _ id i4
      obtain ⟨es', fr', p1, p2⟩ := i5.put goodVl (a := VlA ⟨xk, xn⟩) (v := .int 3 ((2 * (T.prs.length - (n + 1)) : Nat) : Int)) ⟨_, rfl⟩ c
      simp only [VlA] at p1
      have e3 : IntKind.i64.wrap (((2 * (T.prs.length - (n + 1)) : Nat) : Int) + 2) = ((2 * (T.prs.length - n) : Nat) : Int) := by rw [wrap64 (by omega) (by omega)]; omega
      simp only [go_sem, reduceCtorEq, Nat.reduceEqDiff, Nat.reduceAdd, Nat.reduceMul, Nat.reduceLeDiff, Nat.reduceSub, Nat.reduceLT, Nat.reduceBEq, Nat.reduceBNe, Int.reduceBEq, Int.reduceBNe, Int.reduceLT, Int.reduceLE, Int.reduceAdd, Int.reduceEq, Int.reduceNe, beq_self_eq_true, bne_self_eq_false, decide_true, decide_false, Bool.not_true, Bool.not_false, Bool.false_eq_true, false_and, and_false, not_true_eq_false, not_false_eq_true, f3, f4, x4, m4, p1, e3, hok]
      have hn4 : M.next.num ≤ M.next.num := Nat.le_refl _
      have bp : But (fun p => p = M.next) M4 (M4.put M.next (.map es' (if fr' = true then c + 1 else c))) := But.put (S := fun p => p = M.next) (p := M.next) _ rfl _
      have bb : But (fun _ => False) M (M4.put M.next (.map es' (if fr' = true then c + 1 else c))) := But.fresh hw ((d4.any _).trans (bp.mono fun p e => .inr (by rw [e]; exact Nat.le_refl _)))
      refine ⟨n, by omega, by omega, hw4.put m4 _, bb, ⟨es', if fr' = true then c + 1 else c, by simp [Mem.put], ?_⟩, by simp [Tr.get_set, f1], by simp [Tr.get_set, f2], by simp [Tr.get_set, f3], by rw [Tr.get_set]; rfl⟩
      have e5 : T.prs.length - n = T.prs.length - (n + 1) + 1 := by omega
      rw [e5]
      exact p2.congr hstep

theorem parts_tail (D : DcT tbl) {M : Mem} {sv : AV} {T : Tb} {fr : Tr AV} {Q : CR → Mem → Prop} (hw : M.wf) (hs : CutSl M sv 2 (VlL T.slots)) (hT : TbOk T) (f1 : fr.get (.o .h) = some sv)
    (hQ : ∀ a p mp M', SlIs M' a 2 (VlL T.arr) → SlIs M' p 2 (VlL (flatP T.prs)) → But (fun _ => False) M M' → (∃ es c, M'.get mp = some (.map es c) ∧ MapIs (.flat [.int, .int]) (fun a => ∃ v, a = VlA v) es (posF T.prs)) → Q (.ret (.tuple (.cons a (.cons p (.cons (.map mp) (.cons (.bool true) .nil)))))) M') :
    CCode.wp tbl (seqTail 4 cf124.body) fr M (finW cf124.results Q) := by
  have hr := hs.1
  have hlen := hr.len
  rw [vlL_len] at hlen
  have hn : T.slots.length = T.arr.length + 2 * T.prs.length + 2 := by simp only [Tb.slots, List.length_cons, List.length_append, flatP_len]
  have hb := hT.len
  have g2 : (1 : Nat) < T.slots.length := by omega
  obtain ⟨q, qo, k1, k2⟩ := vl_at hr (i := 1) (by omega)
  have hs1 : T.slots[1]'(by omega) = ⟨3, (T.arr.length : Int)⟩ := rfl
  rw [hs1] at k2
  have d2 : MB.cell (M.get q) (qo + 1 * 2 + 1) = some (.int 3 T.arr.length) := by have := MB.cell_row k2 (j := 1) (by omega); simpa using this
  have hne : VlL T.slots ≠ [] := by intro e; have := congrArg List.length e; rw [vlL_len] at this; simp only [List.length_nil] at this; omega
  obtain ⟨va, p1, s1, hc1⟩ := hs.cut3 (by omega) (lo := 2) (hi := 2 + T.arr.length) (by omega) (by rw [vlL_len]; omega) hne
  obtain ⟨vp, p2, s2, hc2⟩ := hs.cut3 (by omega) (lo := 2 + T.arr.length) (hi := T.slots.length) (by omega) (by rw [vlL_len]; omega) hne
  rw [slots_arr] at s1
  rw [slots_prs] at s2
  have e2 : IntKind.i64.wrap (2 + (T.arr.length : Int)) = ((2 + T.arr.length : Nat) : Int) := by rw [wrap64 (by omega) (by omega)]; omega
  have l1 : slLen va = some T.arr.length := by rw [s1.len, vlL_len]
  have l2 : slLen vp = some (2 * T.prs.length) := by rw [s2.len, vlL_len, flatP_len]
  have e3 : arithI .rem 3 ((2 * T.prs.length : Nat) : Int) 2 = some (.int 3 0) := by
    show (if (2 : Int) = 0 then none else some (AV.int 3 (((2 * T.prs.length : Nat) : Int).tmod 2))) = _
    rw [if_neg (by decide), Int.tmod_eq_emod_of_nonneg (by omega)]
    have : ((2 * T.prs.length : Nat) : Int) % 2 = 0 := by omega
    rw [this]
  have g00 : ((0 : Int) != 0) = false := rfl
  have n2 : natO (AV.int 3 2) = some 2 := rfl
  have tail := fun (fr : Tr AV) (M2 : Mem) (h : M2.wf) (b : But (fun _ => False) M M2) (f1 : fr.get (.o (.o .h)) = some va) (f2 : fr.get (.i (.o .h)) = some vp) => parts_tail2 (Q := Q) D h hT (s1.old b.old) (s2.old b.old) f1 f2 (fun a p mp M' h1 h2 h3 h4 => hQ a p mp M' h1 h2 (b.trans h3) h4)
  rw [body4]
  generalize seqTail 7 cf124.body = tl at *
  by_cases ha : 0 < T.arr.length
  · have g0 : decide ((0 : Int) < (T.arr.length : Int)) = true := by simp only [decide_eq_true_eq]; omega
    have hm : T.arr.length - 1 < T.arr.length := by omega
    obtain ⟨q', qo', a1, a2⟩ := vl_at s1 (i := T.arr.length - 1) hm
    have e4 : IntKind.i64.wrap ((T.arr.length : Int) - 1) = ((T.arr.length - 1 : Nat) : Int) := by rw [wrap64 (by omega) (by omega)]; omega
    have hlast := hT.last (T.arr[T.arr.length - 1]) (by rw [List.getLast?_eq_getElem?]; exact List.getElem?_eq_getElem hm)
    have hnv : nullV T.arr[T.arr.length - 1] = false := by simp only [nullV, decide_eq_false_iff_not]; exact hlast
    simp only [go_sem, reduceCtorEq, Nat.reduceEqDiff, Nat.reduceAdd, Nat.reduceMul, Nat.reduceLeDiff, Nat.reduceSub, Nat.reduceLT, Nat.reduceBEq, Nat.reduceBNe, Int.reduceBEq, Int.reduceBNe, Int.reduceLT, Int.reduceLE, Int.reduceAdd, Int.reduceEq, Int.reduceNe, beq_self_eq_true, bne_self_eq_false, decide_true, decide_false, Bool.not_true, Bool.not_false, Bool.false_eq_true, false_and, and_false, not_true_eq_false, not_false_eq_true, cf124, seqHead, seqTail, f1, k1, g2, d2, e2, hlen, n2, p1, p2, l1, l2, e3, g00, g0, e4, a1, a2, hm]
    refine (null_spec' D.h129 (T.arr[T.arr.length - 1])).use ?_
    rintro r M3 hw3 ⟨rfl, b3⟩
    rw [hnv]
    simp only [go_sem, reduceCtorEq, Nat.reduceEqDiff, Nat.reduceAdd, Nat.reduceMul, Nat.reduceLeDiff, Nat.reduceSub, Nat.reduceLT, Nat.reduceBEq, Nat.reduceBNe, Int.reduceBEq, Int.reduceBNe, Int.reduceLT, Int.reduceLE, Int.reduceAdd, Int.reduceEq, Int.reduceNe, beq_self_eq_true, bne_self_eq_false, decide_true, decide_false, Bool.not_true, Bool.not_false, Bool.false_eq_true, false_and, and_false, not_true_eq_false, not_false_eq_true]
    refine tail _ _ hw3 b3 ?_ ?_
    · first | rfl | simp [Tr.get_set]
    · first | rfl | simp [Tr.get_set]
  · have g0 : decide ((0 : Int) < (T.arr.length : Int)) = false := by simp only [decide_eq_false_iff_not]; omega
    simp only [go_sem, reduceCtorEq, Nat.reduceEqDiff, Nat.reduceAdd, Nat.reduceMul, Nat.reduceLeDiff, Nat.reduceSub, Nat.reduceLT, Nat.reduceBEq, Nat.reduceBNe, Int.reduceBEq, Int.reduceBNe, Int.reduceLT, Int.reduceLE, Int.reduceAdd, Int.reduceEq, Int.reduceNe, beq_self_eq_true, bne_self_eq_false, decide_true, decide_false, Bool.not_true, Bool.not_false, Bool.false_eq_true, false_and, and_false, not_true_eq_false, not_false_eq_true, cf124, seqHead, seqTail, f1, k1, g2, d2, e2, hlen, n2, p1, p2, l1, l2, e3, g00, g0]
    refine tail _ _ hw (But.refl _ _) ?_ ?_
    · first | rfl | simp [Tr.get_set]
    · first | rfl | simp [Tr.get_set]

theorem parts_spec (D : DcT tbl) {M : Mem} {sv : AV} {T : Tb} (hs : CutSl M sv 2 (VlL T.slots)) (hT : TbOk T) :
    CallW tbl 124 (.cons sv .nil) M fun r M' => ∃ a p mp, r = .ret (.tuple (.cons a (.cons p (.cons (.map mp) (.cons (.bool true) .nil))))) ∧ But (fun _ => False) M M' ∧ SlIs M' a 2 (VlL T.arr) ∧ SlIs M' p 2 (VlL (flatP T.prs)) ∧ ∃ es c, M'.get mp = some (.map es c) ∧ MapIs (.flat [.int, .int]) (fun a => ∃ v, a = VlA v) es (posF T.prs) := by
  refine CallW.wf fun hw => ?_
  refine CallW.intro D.h124 rfl (fr := .nod (.val .leaf sv .leaf) .leaf) rfl ?_
  have hr := hs.1
  have hlen := hr.len
  rw [vlL_len] at hlen
  have hn : T.slots.length = T.arr.length + 2 * T.prs.length + 2 := by simp only [Tb.slots, List.length_cons, List.length_append, flatP_len]
  have hb := hT.len
  obtain ⟨p, po, a1, a2⟩ := vl_at hr (i := 1) (by omega)
  have hs1 : T.slots[1]'(by omega) = ⟨3, (T.arr.length : Int)⟩ := rfl
  rw [hs1] at a2
  obtain ⟨p', po', a1', a3⟩ := vl_at hr (i := 0) (by omega)
  rw [a1] at a1'
  cases a1'
  have hs0 : T.slots[0]'(by omega) = T.met := rfl
  rw [hs0] at a3
  have c1 : MB.cell (M.get p) (po + 1 * 2 + 0) = some (.int 3 3) := by have := MB.cell_row a2 (j := 0) (by omega); simpa using this
  have c2 : MB.cell (M.get p) (po + 1 * 2 + 1) = some (.int 3 T.arr.length) := by have := MB.cell_row a2 (j := 1) (by omega); simpa using this
  have c3 : MB.cell (M.get p) (po + 0 * 2 + 0) = some (.int 3 T.met.k) := by have := MB.cell_row a3 (j := 0) (by omega); simpa using this
  have g1 : decide (((T.slots.length : Nat) : Int) < 2) = false := by simp only [decide_eq_false_iff_not]; omega
  have g2 : (1 : Nat) < T.slots.length := by omega
  have g3 : (0 : Nat) < T.slots.length := by omega
  have g4 : decide (((T.arr.length : Nat) : Int) < 0) = false := by simp only [decide_eq_false_iff_not]; omega
  have e1 : IntKind.i64.wrap (((T.slots.length : Nat) : Int) - 2) = (T.slots.length : Int) - 2 := wrap64 (by omega) (by omega)
  have g5 : decide (((T.slots.length : Nat) : Int) - 2 < (T.arr.length : Int)) = false := by simp only [decide_eq_false_iff_not]; omega
  have g33 : ((3 : Int) != 3) = false := rfl
  have tail := fun (fr : Tr AV) (M2 : Mem) (h : M2.wf) (b12 : But (fun _ => False) M M2) (f1 : fr.get (.o .h) = some sv) => parts_tail (Q := fun r M' => ∃ a p mp, r = .ret (.tuple (.cons a (.cons p (.cons (.map mp) (.cons (.bool true) .nil))))) ∧ But (fun _ => False) M M' ∧ SlIs M' a 2 (VlL T.arr) ∧ SlIs M' p 2 (VlL (flatP T.prs)) ∧ ∃ es c, M'.get mp = some (.map es c) ∧ MapIs (.flat [.int, .int]) (fun a => ∃ v, a = VlA v) es (posF T.prs)) D h (hs.quiet b12) hT f1 (fun a p mp M' h1 h2 h3 h4 => ⟨a, p, mp, rfl, b12.trans h3, h1, h2, h4⟩)
  rw [body0]
  generalize seqTail 4 cf124.body = tl at *
  simp only [go_sem, reduceCtorEq, Nat.reduceEqDiff, Nat.reduceAdd, Nat.reduceMul, Nat.reduceLeDiff, Nat.reduceSub, Nat.reduceLT, Nat.reduceBEq, Nat.reduceBNe, Int.reduceBEq, Int.reduceBNe, Int.reduceLT, Int.reduceLE, Int.reduceAdd, Int.reduceEq, Int.reduceNe, beq_self_eq_true, bne_self_eq_false, decide_true, decide_false, Bool.not_true, Bool.not_false, Bool.false_eq_true, false_and, and_false, not_true_eq_false, not_false_eq_true, cf124, seqHead, seqTail, hlen, g1, g2, g3, a1, c1, c2, c3, g4, g5, e1, g33]
  refine (contains_none0 D.h121 D.h145 hr (by omega) (fun v hv M' hw' b' => bad_spec D.h146 D.h117 D.h143 (hT.may v hv).1 (hT.may v hv).2)).use ?_
  rintro r M1 hw1 ⟨rfl, b1⟩
  obtain ⟨q, qo, k1, a3'⟩ := vl_at (hr.old b1.old) (i := 0) (by omega)
  rw [a1] at k1
  cases k1
  rw [hs0] at a3'
  have a3'' : MB.cellsAt (M1.get p) (po + 0) 2 = some [.int 3 T.met.k, .int 3 T.met.n] := by
    have e : po + 0 * 2 = po + 0 := by omega
    rw [e] at a3'
    exact a3'
  simp only [go_sem, reduceCtorEq, Nat.reduceEqDiff, Nat.reduceAdd, Nat.reduceMul, Nat.reduceLeDiff, Nat.reduceSub, Nat.reduceLT, Nat.reduceBEq, Nat.reduceBNe, Int.reduceBEq, Int.reduceBNe, Int.reduceLT, Int.reduceLE, Int.reduceAdd, Int.reduceEq, Int.reduceNe, beq_self_eq_true, bne_self_eq_false, decide_true, decide_false, Bool.not_true, Bool.not_false, Bool.false_eq_true, false_and, and_false, not_true_eq_false, not_false_eq_true, g3, a1, a3'']
  refine (null_spec' D.h129 T.met).use ?_
  rintro r M2 hw2 ⟨rfl, b2⟩
  have b12 := b1.trans b2
  rcases hT.met with hm | hm
  · have hnv : nullV T.met = true := by simp [nullV, hm]
    rw [hnv]
    simp only [go_sem, reduceCtorEq, Nat.reduceEqDiff, Nat.reduceAdd, Nat.reduceMul, Nat.reduceLeDiff, Nat.reduceSub, Nat.reduceLT, Nat.reduceBEq, Nat.reduceBNe, Int.reduceBEq, Int.reduceBNe, Int.reduceLT, Int.reduceLE, Int.reduceAdd, Int.reduceEq, Int.reduceNe, beq_self_eq_true, bne_self_eq_false, decide_true, decide_false, Bool.not_true, Bool.not_false, Bool.false_eq_true, false_and, and_false, not_true_eq_false, not_false_eq_true]
    refine tail _ _ hw2 b12 ?_
    first | rfl | simp [Tr.get_set]
  · have hnv : nullV T.met = false := by simp only [nullV, decide_eq_false_iff_not]; intro e; rw [e] at hm; exact absurd hm (by decide)
    obtain ⟨q, qo, k1, k3⟩ := vl_at (hr.old b12.old) (i := 0) (by omega)
    rw [a1] at k1
    cases k1
    rw [hs0] at k3
    have d3 : MB.cell (M2.get p) (po + 0 + 0) = some (.int 3 T.met.k) := by
      have h := MB.cell_row k3 (j := 0) (by omega)
      have e : po + 0 * 2 + 0 = po + 0 + 0 := by omega
      rw [e] at h
      simpa using h
    have g6 : (T.met.k != 6) = false := by simp [hm]
    rw [hnv]
    simp only [go_sem, reduceCtorEq, Nat.reduceEqDiff, Nat.reduceAdd, Nat.reduceMul, Nat.reduceLeDiff, Nat.reduceSub, Nat.reduceLT, Nat.reduceBEq, Nat.reduceBNe, Int.reduceBEq, Int.reduceBNe, Int.reduceLT, Int.reduceLE, Int.reduceAdd, Int.reduceEq, Int.reduceNe, beq_self_eq_true, bne_self_eq_false, decide_true, decide_false, Bool.not_true, Bool.not_false, Bool.false_eq_true, false_and, and_false, not_true_eq_false, not_false_eq_true, a1, g3, d3, g6]
    refine tail _ _ hw2 b12 ?_
    first | rfl | simp [Tr.get_set]
end Go.Proofs.Ythpnhdopheofcaa

end
section
namespace Go.Proofs.Ythpnhdopheofcaa
open Go.Dx
variable {tbl : Nat → Option CFunc}

theorem check_ok (D : DcT tbl) (h : tbl 131 = some cf131) {M : Mem} {sv : AV} {T : Tb} (hs : CutSl M sv 2 (VlL T.slots)) (hT : TbOk T) :
    CallW tbl 131 (.cons sv .nil) M fun r M' => r = .ret (.bool true) ∧ But (fun _ => False) M M' := by
  refine CallW.intro h rfl (fr := .nod (.val .leaf sv .leaf) .leaf) rfl ?_
  simp only [go_sem, reduceCtorEq, Nat.reduceEqDiff, Nat.reduceAdd, Nat.reduceMul, Nat.reduceLeDiff, Nat.reduceSub, Nat.reduceLT, Nat.reduceBEq, Nat.reduceBNe, Int.reduceBEq, Int.reduceBNe, Int.reduceLT, Int.reduceLE, Int.reduceAdd, Int.reduceEq, Int.reduceNe, beq_self_eq_true, bne_self_eq_false, decide_true, decide_false, Bool.not_true, Bool.not_false, Bool.false_eq_true, false_and, and_false, not_true_eq_false, not_false_eq_true, cf131]
  refine (parts_spec D hs hT).use ?_
  rintro r M1 hw1 ⟨a, p, mp, rfl, b, _⟩
  simp only [go_sem, reduceCtorEq, Nat.reduceEqDiff, Nat.reduceAdd, Nat.reduceMul, Nat.reduceLeDiff, Nat.reduceSub, Nat.reduceLT, Nat.reduceBEq, Nat.reduceBNe, Int.reduceBEq, Int.reduceBNe, Int.reduceLT, Int.reduceLE, Int.reduceAdd, Int.reduceEq, Int.reduceNe, beq_self_eq_true, bne_self_eq_false, decide_true, decide_false, Bool.not_true, Bool.not_false, Bool.false_eq_true, false_and, and_false, not_true_eq_false, not_false_eq_true]
  first | exact b | exact ⟨rfl, b⟩

theorem dlen_ok (D : DcT tbl) (h : tbl 98 = some cf98) {M : Mem} {sv : AV} {T : Tb} (hs : CutSl M sv 2 (VlL T.slots)) (hT : TbOk T) :
    CallW tbl 98 (.cons sv .nil) M fun r M' => r = .ret (.int 3 T.arr.length) ∧ But (fun _ => False) M M' := by
  refine CallW.intro h rfl (fr := .nod (.val .leaf sv .leaf) .leaf) rfl ?_
  simp only [go_sem, reduceCtorEq, Nat.reduceEqDiff, Nat.reduceAdd, Nat.reduceMul, Nat.reduceLeDiff, Nat.reduceSub, Nat.reduceLT, Nat.reduceBEq, Nat.reduceBNe, Int.reduceBEq, Int.reduceBNe, Int.reduceLT, Int.reduceLE, Int.reduceAdd, Int.reduceEq, Int.reduceNe, beq_self_eq_true, bne_self_eq_false, decide_true, decide_false, Bool.not_true, Bool.not_false, Bool.false_eq_true, false_and, and_false, not_true_eq_false, not_false_eq_true, cf98]
  refine (parts_spec D hs hT).use ?_
  rintro r M1 hw1 ⟨a, p, mp, rfl, b, s1, s2, es, c, m1, m2⟩
  have l1 : slLen a = some T.arr.length := by rw [s1.len, vlL_len]
  simp only [go_sem, reduceCtorEq, Nat.reduceEqDiff, Nat.reduceAdd, Nat.reduceMul, Nat.reduceLeDiff, Nat.reduceSub, Nat.reduceLT, Nat.reduceBEq, Nat.reduceBNe, Int.reduceBEq, Int.reduceBNe, Int.reduceLT, Int.reduceLE, Int.reduceAdd, Int.reduceEq, Int.reduceNe, beq_self_eq_true, bne_self_eq_false, decide_true, decide_false, Bool.not_true, Bool.not_false, Bool.false_eq_true, false_and, and_false, not_true_eq_false, not_false_eq_true, l1]
  first | exact b | exact ⟨rfl, b⟩

/-- What a table has under a key. -/
def Tb.get (T : Tb) (k : Vl) : Vl :=
  if placedV k T.arr.length = true then (T.arr[(k.n - 1).toNat]?).getD ⟨1, 0⟩
  else match posP T.prs k with | some i => ((T.prs[i]?).map (·.2)).getD ⟨1, 0⟩ | none => ⟨1, 0⟩

theorem posP_lt {l : List (Vl × Vl)} {k : Vl} {i : Nat} (h : posP l k = some i) : i < l.length := by
  unfold posP at h
  exact (List.findIdx?_eq_some_iff_getElem.1 h).1

theorem dget_ok (D : DcT tbl) (h : tbl 93 = some cf93) {M : Mem} {sv : AV} {T : Tb} {k : Vl} (hs : CutSl M sv 2 (VlL T.slots)) (hT : TbOk T) :
    CallW tbl 93 (.cons sv (.cons (VlA k) .nil)) M fun r M' => r = .ret (VlA (T.get k)) ∧ But (fun _ => False) M M' := by
  refine CallW.wf fun hw => ?_
  have hn : T.slots.length = T.arr.length + 2 * T.prs.length + 2 := by simp only [Tb.slots, List.length_cons, List.length_append, flatP_len]
  have hb := hT.len
  cases hg : T.get k with
  | mk gk gn =>
  obtain ⟨kk, kn⟩ := k
  refine CallW.intro h rfl (fr := .nod (.val .leaf sv .leaf) (.val .leaf (VlA ⟨kk, kn⟩) .leaf)) rfl ?_
  have b1 := But.new (S := fun _ => False) hw (.cells [.int 3 kk, .int 3 kn] false)
  have w1 := hw.new (.cells [.int 3 kk, .int 3 kn] false)
  have b2 := But.new (S := fun _ => False) w1 (.cells [.int 3 0, .int 3 0] false)
  have x1 : ((M.new (.cells [.int 3 kk, .int 3 kn] false)).new (.cells [.int 3 0, .int 3 0] false)).get M.next = some (.cells [.int 3 kk, .int 3 kn] false) := by simp only [go_sem, reduceCtorEq, Nat.reduceEqDiff, Nat.reduceAdd, Nat.reduceMul, Nat.reduceLeDiff, Nat.reduceSub, Nat.reduceLT, Nat.reduceBEq, Nat.reduceBNe, Int.reduceBEq, Int.reduceBNe, Int.reduceLT, Int.reduceLE, Int.reduceAdd, Int.reduceEq, Int.reduceNe, beq_self_eq_true, bne_self_eq_false, decide_true, decide_false, Bool.not_true, Bool.not_false, Bool.false_eq_true, false_and, and_false, not_true_eq_false, not_false_eq_true]
  have x2 : ((M.new (.cells [.int 3 kk, .int 3 kn] false)).new (.cells [.int 3 0, .int 3 0] false)).get M.next.succ = some (.cells [.int 3 0, .int 3 0] false) := by simp only [go_sem, reduceCtorEq, Nat.reduceEqDiff, Nat.reduceAdd, Nat.reduceMul, Nat.reduceLeDiff, Nat.reduceSub, Nat.reduceLT, Nat.reduceBEq, Nat.reduceBNe, Int.reduceBEq, Int.reduceBNe, Int.reduceLT, Int.reduceLE, Int.reduceAdd, Int.reduceEq, Int.reduceNe, beq_self_eq_true, bne_self_eq_false, decide_true, decide_false, Bool.not_true, Bool.not_false, Bool.false_eq_true, false_and, and_false, not_true_eq_false, not_false_eq_true]
  simp only [go_sem, reduceCtorEq, Nat.reduceEqDiff, Nat.reduceAdd, Nat.reduceMul, Nat.reduceLeDiff, Nat.reduceSub, Nat.reduceLT, Nat.reduceBEq, Nat.reduceBNe, Int.reduceBEq, Int.reduceBNe, Int.reduceLT, Int.reduceLE, Int.reduceAdd, Int.reduceEq, Int.reduceNe, beq_self_eq_true, bne_self_eq_false, decide_true, decide_false, Bool.not_true, Bool.not_false, Bool.false_eq_true, false_and, and_false, not_true_eq_false, not_false_eq_true, cf93, VlA]
  refine (parts_spec D (hs.quiet (b1.trans b2)) hT).use ?_
  rintro r M1 hw1 ⟨a, p, mp, rfl, b3, s1, s2, es, c, m1, m2⟩
  have l1 : slLen a = some T.arr.length := by rw [s1.len, vlL_len]
  have l2 : slLen p = some (2 * T.prs.length) := by rw [s2.len, vlL_len, flatP_len]
  have y1 := b3.get _ _ id x1
  have y2 := b3.get _ _ id x2
  simp only [go_sem, reduceCtorEq, Nat.reduceEqDiff, Nat.reduceAdd, Nat.reduceMul, Nat.reduceLeDiff, Nat.reduceSub, Nat.reduceLT, Nat.reduceBEq, Nat.reduceBNe, Int.reduceBEq, Int.reduceBNe, Int.reduceLT, Int.reduceLE, Int.reduceAdd, Int.reduceEq, Int.reduceNe, beq_self_eq_true, bne_self_eq_false, decide_true, decide_false, Bool.not_true, Bool.not_false, Bool.false_eq_true, false_and, and_false, not_true_eq_false, not_false_eq_true, l1, y1]
  refine (placed_spec D.h128 ⟨kk, kn⟩ _).use ?_
  rintro r M2 hw2 ⟨rfl, b4⟩
  have z1 := b4.get _ _ id y1
  have z2 := b4.get _ _ id y2
  have m3 := b4.get _ _ id m1
  have bb := ((b1.trans b2).trans b3).trans b4
  have fin : ∀ x y : Int, But (fun _ => False) M (M2.put M.next.succ (.cells [.int 3 x, .int 3 y] false)) := fun x y => But.fresh (S := fun _ => False) hw ((bb.any _).trans (But.put (S := fun p => False ∨ M.next.num ≤ p.num) (p := M.next.succ) _ (.inr (by rw [Pos.num_succ]; omega)) _))
  cases hp : placedV ⟨kk, kn⟩ T.arr.length with
  | true =>
    have hp' := hp
    simp only [placedV, Bool.and_eq_true, decide_eq_true_eq] at hp'
    obtain ⟨q1, q2, q3⟩ := hp'
    have hj : (kn - 1).toNat < T.arr.length := by omega
    have e1 : IntKind.i64.wrap (kn - 1) = (((kn - 1).toNat : Nat) : Int) := by rw [wrap64 (by omega) (by omega)]; omega
    obtain ⟨q, qo, a1, a2⟩ := vl_at (s1.old b4.old) (i := (kn - 1).toNat) hj
    have hv : T.arr[(kn - 1).toNat] = ⟨gk, gn⟩ := by
      rw [← hg]
      simp only [Tb.get, hp, if_true, List.getElem?_eq_getElem hj, Option.getD_some]
    rw [hv] at a2
    simp only [go_sem, reduceCtorEq, Nat.reduceEqDiff, Nat.reduceAdd, Nat.reduceMul, Nat.reduceLeDiff, Nat.reduceSub, Nat.reduceLT, Nat.reduceBEq, Nat.reduceBNe, Int.reduceBEq, Int.reduceBNe, Int.reduceLT, Int.reduceLE, Int.reduceAdd, Int.reduceEq, Int.reduceNe, beq_self_eq_true, bne_self_eq_false, decide_true, decide_false, Bool.not_true, Bool.not_false, Bool.false_eq_true, false_and, and_false, not_true_eq_false, not_false_eq_true, l1, z1, z2, e1, a1, a2, hj]
    exact fin _ _
  | false =>
    have hf := m2.find (VlA ⟨kk, kn⟩) ⟨_, rfl⟩
    have hok : okKey (.flat [.int, .int]) (VlA ⟨kk, kn⟩) = true := MapIs.okKey goodVl ⟨_, rfl⟩
    simp only [VlA] at hok
    have hg' : Tb.get T ⟨kk, kn⟩ = (match posP T.prs ⟨kk, kn⟩ with | some i => ((T.prs[i]?).map (·.2)).getD ⟨1, 0⟩ | none => ⟨1, 0⟩) := by simp only [Tb.get, hp]; rfl
    cases hpos : posP T.prs ⟨kk, kn⟩ with
    | none =>
      have hf' : es.find (.flat [.int, .int]) (VlA ⟨kk, kn⟩) = some none := by rw [hf]; simp [posF, unV_of, hpos]
      simp only [VlA] at hf'
      rw [hpos] at hg'
      rw [hg] at hg'
      cases hg'
      simp only [go_sem, reduceCtorEq, Nat.reduceEqDiff, Nat.reduceAdd, Nat.reduceMul, Nat.reduceLeDiff, Nat.reduceSub, Nat.reduceLT, Nat.reduceBEq, Nat.reduceBNe, Int.reduceBEq, Int.reduceBNe, Int.reduceLT, Int.reduceLE, Int.reduceAdd, Int.reduceEq, Int.reduceNe, beq_self_eq_true, bne_self_eq_false, decide_true, decide_false, Bool.not_true, Bool.not_false, Bool.false_eq_true, false_and, and_false, not_true_eq_false, not_false_eq_true, z1, z2, m3, hok, hf']
      exact fin _ _
    | some i =>
      have hi := posP_lt hpos
      have hf' : es.find (.flat [.int, .int]) (VlA ⟨kk, kn⟩) = some (some (.int 3 ((2 * i : Nat) : Int))) := by rw [hf]; simp [posF, unV_of, hpos]
      simp only [VlA] at hf'
      rw [hpos] at hg'
      simp only [List.getElem?_eq_getElem hi, Option.map_some, Option.getD_some] at hg'
      have hfl : (flatP T.prs).length = 2 * T.prs.length := flatP_len _
      obtain ⟨q, qo, a1, a2⟩ := vl_at (s2.old b4.old) (i := 2 * i + 1) (by omega)
      rw [hfl] at a1
      have k2 := flatP_val T.prs hi
      rw [List.getElem?_eq_getElem (by omega)] at k2
      rw [Option.some.inj k2, ← hg', hg] at a2
      have e1 : IntKind.i64.wrap (((2 * i : Nat) : Int) + 1) = ((2 * i + 1 : Nat) : Int) := by rw [wrap64 (by omega) (by omega)]; omega
      have g3 : 2 * i + 1 < 2 * T.prs.length := by omega
      simp only [go_sem, reduceCtorEq, Nat.reduceEqDiff, Nat.reduceAdd, Nat.reduceMul, Nat.reduceLeDiff, Nat.reduceSub, Nat.reduceLT, Nat.reduceBEq, Nat.reduceBNe, Int.reduceBEq, Int.reduceBNe, Int.reduceLT, Int.reduceLE, Int.reduceAdd, Int.reduceEq, Int.reduceNe, beq_self_eq_true, bne_self_eq_false, decide_true, decide_false, Bool.not_true, Bool.not_false, Bool.false_eq_true, false_and, and_false, not_true_eq_false, not_false_eq_true, z1, z2, m3, hok, hf', e1, a1, a2, g3, l2]
      exact fin _ _
end Go.Proofs.Ythpnhdopheofcaa

end
section
namespace Go.Proofs.Ythpnhdopheofcaa
open Go.Dx
variable {tbl : Nat → Option CFunc}

/-- The first place from one on that is not empty. -/
def scanN (arr : List Vl) : Nat → Nat → Option Nat
  | 0, _ => none
  | n + 1, i => if nullV ((arr[i]?).getD ⟨1, 0⟩) = true then scanN arr n (i + 1) else some i
def Tb.keyAt (T : Tb) (b : Nat) : Vl := ((T.prs[b]?).map (·.1)).getD ⟨1, 0⟩
def Tb.nextV (T : Tb) (from_ b : Nat) : Vl := match scanN T.arr (T.arr.length - from_) from_ with | some i => ⟨3, (i : Int) + 1⟩ | none => T.keyAt b

theorem body95 : cf95.body = .seq (seqHead cf95.body) (.seq (seqHead (seqTail 1 cf95.body)) (.seq (seqHead (seqTail 2 cf95.body)) (.seq (seqHead (seqTail 3 cf95.body)) (.seq (seqHead (seqTail 4 cf95.body)) (seqTail 5 cf95.body))))) := rfl

theorem next_tail (D : DcT tbl) (h123 : tbl 123 = some cf123) {M : Mem} {va vp : AV} {T : Tb} {fr : Tr AV} {Q : CR → Mem → Prop} {from_ b : Nat} {rc : Pos} (hw : M.wf) (hT : TbOk T) (hfrom : from_ ≤ T.arr.length) (hbl : b ≤ T.prs.length) (s1 : SlIs M va 2 (VlL T.arr)) (s2 : SlIs M vp 2 (VlL (flatP T.prs))) (x : M.get rc = some (.cells [.int 3 0, .int 3 0] false))
    (f1 : fr.get (.o (.o (.o .h))) = some va) (f2 : fr.get (.i (.o (.o .h))) = some vp) (f3 : fr.get (.o (.o (.i .h))) = some (.int 3 from_)) (f4 : fr.get (.i (.o (.i .h))) = some (.int 3 ((2 * b : Nat) : Int))) (f5 : fr.get (.o (.i .h)) = some (.ptr rc 0))
    (hQ : ∀ M', But (fun p => p = rc) M M' → Q (.ret (.tuple (.cons (VlA (T.nextV from_ b)) (.cons (.int 3 0) .nil)))) M') :
    CCode.wp tbl (seqTail 5 cf95.body) fr M (finW cf95.results Q) := by
  have hn : T.slots.length = T.arr.length + 2 * T.prs.length + 2 := by simp only [Tb.slots, List.length_cons, List.length_append, flatP_len]
  have hb := hT.len
  have l1 : slLen va = some T.arr.length := by rw [s1.len, vlL_len]
  have l2 : slLen vp = some (2 * T.prs.length) := by rw [s2.len, vlL_len, flatP_len]
  simp only [go_sem, reduceCtorEq, Nat.reduceEqDiff, Nat.reduceAdd, Nat.reduceMul, Nat.reduceLeDiff, Nat.reduceSub, Nat.reduceLT, Nat.reduceBEq, Nat.reduceBNe, Int.reduceBEq, Int.reduceBNe, Int.reduceLT, Int.reduceLE, Int.reduceAdd, Int.reduceEq, Int.reduceNe, beq_self_eq_true, bne_self_eq_false, decide_true, decide_false, Bool.not_true, Bool.not_false, Bool.false_eq_true, false_and, and_false, not_true_eq_false, not_false_eq_true, cf95, seqTail, f3]
  refine loop_wp (I := fun n fr M' => n ≤ T.arr.length - from_ ∧ M'.wf ∧ But (fun _ => False) M M' ∧ scanN T.arr n (T.arr.length - n) = scanN T.arr (T.arr.length - from_) from_ ∧ fr.get (.o (.o (.o .h))) = some va ∧ fr.get (.i (.o (.o .h))) = some vp ∧ fr.get (.i (.o (.i .h))) = some (.int 3 ((2 * b : Nat) : Int)) ∧ fr.get (.o (.i .h)) = some (.ptr rc 0) ∧ fr.get (.o (.o (.o (.o .h)))) = some (.int 3 ((T.arr.length - n : Nat) : Int))) (n := T.arr.length - from_) ?_ ?_
  · refine ⟨Nat.le_refl _, hw, But.refl _ _, by rw [show T.arr.length - (T.arr.length - from_) = from_ by omega], by simp [Tr.get_set, f1], by simp [Tr.get_set, f2], by simp [Tr.get_set, f4], by simp [Tr.get_set, f5], ?_⟩
    rw [show T.arr.length - (T.arr.length - from_) = from_ by omega, Tr.get_set]; rfl
  · clear f1 f2 f3 f4 f5
    rintro n fr M' ⟨i1, i2, i3, i4, f1, f2, f4, f5, f6⟩
    have x' := i3.get _ _ id x
    cases n with
    | zero =>
      have g : decide (((T.arr.length - 0 : Nat) : Int) < (T.arr.length : Int)) = false := by simp only [decide_eq_false_iff_not]; omega
      have hnx : T.nextV from_ b = T.keyAt b := by simp only [Tb.nextV, ← i4, scanN]
      by_cases hbb : b < T.prs.length
      · have g2 : decide (((2 * b : Nat) : Int) < ((2 * T.prs.length : Nat) : Int)) = true := by simp only [decide_eq_true_eq]; omega
        have hfl : (flatP T.prs).length = 2 * T.prs.length := flatP_len _
        obtain ⟨q, qo, a1, a2⟩ := vl_at (s2.old i3.old) (i := 2 * b) (by omega)
        rw [hfl] at a1
        have k2 := flatP_key T.prs hbb
        rw [List.getElem?_eq_getElem (by omega)] at k2
        have hk : T.keyAt b = T.prs[b].1 := by simp only [Tb.keyAt, List.getElem?_eq_getElem hbb, Option.map_some, Option.getD_some]
        rw [Option.some.inj k2, ← hk] at a2
        rw [hnx] at hQ
        cases hkk : T.keyAt b with
        | mk yk yn =>
        rw [hkk] at a2 hQ
        have g3 : 2 * b < 2 * T.prs.length := by omega
        simp only [go_sem, reduceCtorEq, Nat.reduceEqDiff, Nat.reduceAdd, Nat.reduceMul, Nat.reduceLeDiff, Nat.reduceSub, Nat.reduceLT, Nat.reduceBEq, Nat.reduceBNe, Int.reduceBEq, Int.reduceBNe, Int.reduceLT, Int.reduceLE, Int.reduceAdd, Int.reduceEq, Int.reduceNe, beq_self_eq_true, bne_self_eq_false, decide_true, decide_false, Bool.not_true, Bool.not_false, Bool.false_eq_true, false_and, and_false, not_true_eq_false, not_false_eq_true, f1, f2, f4, f5, f6, l1, l2, g, g2, g3, a1, a2, x']
        exact hQ _ ((i3.any _).trans (But.put (S := fun p => p = rc) (p := rc) _ rfl _))
      · have g2 : decide (((2 * b : Nat) : Int) < ((2 * T.prs.length : Nat) : Int)) = false := by simp only [decide_eq_false_iff_not]; omega
        have hk : T.keyAt b = ⟨1, 0⟩ := by simp only [Tb.keyAt, List.getElem?_eq_none (by omega : T.prs.length ≤ b), Option.map_none, Option.getD_none]
        rw [hnx, hk] at hQ
        simp only [go_sem, reduceCtorEq, Nat.reduceEqDiff, Nat.reduceAdd, Nat.reduceMul, Nat.reduceLeDiff, Nat.reduceSub, Nat.reduceLT, Nat.reduceBEq, Nat.reduceBNe, Int.reduceBEq, Int.reduceBNe, Int.reduceLT, Int.reduceLE, Int.reduceAdd, Int.reduceEq, Int.reduceNe, beq_self_eq_true, bne_self_eq_false, decide_true, decide_false, Bool.not_true, Bool.not_false, Bool.false_eq_true, false_and, and_false, not_true_eq_false, not_false_eq_true, f1, f2, f4, f5, f6, l1, l2, g, g2, x']
        exact hQ _ ((i3.any _).trans (But.put (S := fun p => p = rc) (p := rc) _ rfl _))
    | succ n =>
      have g : decide (((T.arr.length - (n + 1) : Nat) : Int) < (T.arr.length : Int)) = true := by simp only [decide_eq_true_eq]; omega
      have hi : T.arr.length - (n + 1) < T.arr.length := by omega
      obtain ⟨q, qo, a1, a2⟩ := vl_at (s1.old i3.old) (i := T.arr.length - (n + 1)) hi
      simp only [go_sem, reduceCtorEq, Nat.reduceEqDiff, Nat.reduceAdd, Nat.reduceMul, Nat.reduceLeDiff, Nat.reduceSub, Nat.reduceLT, Nat.reduceBEq, Nat.reduceBNe, Int.reduceBEq, Int.reduceBNe, Int.reduceLT, Int.reduceLE, Int.reduceAdd, Int.reduceEq, Int.reduceNe, beq_self_eq_true, bne_self_eq_false, decide_true, decide_false, Bool.not_true, Bool.not_false, Bool.false_eq_true, false_and, and_false, not_true_eq_false, not_false_eq_true, f1, f2, f4, f5, f6, l1, g, hi, a1, a2]
      refine (null_spec' D.h129 (T.arr[T.arr.length - (n + 1)])).use ?_
      rintro r M2 hw2 ⟨rfl, b2⟩
      have e1 : IntKind.i64.wrap (((T.arr.length - (n + 1) : Nat) : Int) + 1) = ((T.arr.length - (n + 1) + 1 : Nat) : Int) := by rw [wrap64 (by omega) (by omega)]; omega
      simp only [scanN, List.getElem?_eq_getElem hi, Option.getD_some] at i4
      cases hv : nullV T.arr[T.arr.length - (n + 1)] with
      | true =>
        rw [hv] at i4
        simp only [if_true] at i4
        simp only [go_sem, reduceCtorEq, Nat.reduceEqDiff, Nat.reduceAdd, Nat.reduceMul, Nat.reduceLeDiff, Nat.reduceSub, Nat.reduceLT, Nat.reduceBEq, Nat.reduceBNe, Int.reduceBEq, Int.reduceBNe, Int.reduceLT, Int.reduceLE, Int.reduceAdd, Int.reduceEq, Int.reduceNe, beq_self_eq_true, bne_self_eq_false, decide_true, decide_false, Bool.not_true, Bool.not_false, Bool.false_eq_true, false_and, and_false, not_true_eq_false, not_false_eq_true, f1, f2, f4, f5, f6, e1]
        refine ⟨n, by omega, by omega, hw2, i3.trans b2, ?_, by simp [Tr.get_set, f1], by simp [Tr.get_set, f2], by simp [Tr.get_set, f4], by simp [Tr.get_set, f5], ?_⟩
        · rw [show T.arr.length - n = T.arr.length - (n + 1) + 1 by omega]; exact i4
        · rw [show T.arr.length - n = T.arr.length - (n + 1) + 1 by omega, Tr.get_set]; rfl
      | false =>
        rw [hv] at i4
        simp only [Bool.false_eq_true, if_false] at i4
        have hnx : T.nextV from_ b = ⟨3, ((T.arr.length - (n + 1) : Nat) : Int) + 1⟩ := by simp only [Tb.nextV, ← i4]
        rw [hnx] at hQ
        simp only [go_sem, reduceCtorEq, Nat.reduceEqDiff, Nat.reduceAdd, Nat.reduceMul, Nat.reduceLeDiff, Nat.reduceSub, Nat.reduceLT, Nat.reduceBEq, Nat.reduceBNe, Int.reduceBEq, Int.reduceBNe, Int.reduceLT, Int.reduceLE, Int.reduceAdd, Int.reduceEq, Int.reduceNe, beq_self_eq_true, bne_self_eq_false, decide_true, decide_false, Bool.not_true, Bool.not_false, Bool.false_eq_true, false_and, and_false, not_true_eq_false, not_false_eq_true, f1, f2, f4, f5, f6, e1]
        refine (integer_spec h123 _).use ?_
        rintro r M3 hw3 ⟨rfl, b3⟩
        have x3 := (b2.trans b3).get _ _ id x'
        simp only [go_sem, reduceCtorEq, Nat.reduceEqDiff, Nat.reduceAdd, Nat.reduceMul, Nat.reduceLeDiff, Nat.reduceSub, Nat.reduceLT, Nat.reduceBEq, Nat.reduceBNe, Int.reduceBEq, Int.reduceBNe, Int.reduceLT, Int.reduceLE, Int.reduceAdd, Int.reduceEq, Int.reduceNe, beq_self_eq_true, bne_self_eq_false, decide_true, decide_false, Bool.not_true, Bool.not_false, Bool.false_eq_true, false_and, and_false, not_true_eq_false, not_false_eq_true, VlA, f5, x3]
        have hh := hQ (M3.put rc (.cells [.int 3 3, .int 3 ((T.arr.length - (n + 1) + 1 : Nat) : Int)] false)) ((((i3.trans b2).trans b3).any _).trans (But.put (S := fun p => p = rc) (p := rc) _ rfl _))
        exact hh
end Go.Proofs.Ythpnhdopheofcaa

end
section
namespace Go.Proofs.Ythpnhdopheofcaa
open Go.Dx
variable {tbl : Nat → Option CFunc}

/-- Where Next begins to look. -/
def Tb.start (T : Tb) (k : Vl) : Option (Nat × Nat) :=
  match posP T.prs k with
  | some i => some (T.arr.length, i + 1)
  | none => if placedV k T.arr.length = true then some (k.n.toNat, 0) else if nullV k = true then some (0, 0) else none

theorem dnext_ok (D : DcT tbl) (h95 : tbl 95 = some cf95) (h123 : tbl 123 = some cf123) {M : Mem} {sv : AV} {T : Tb} {k : Vl} {a b : Nat} (hs : CutSl M sv 2 (VlL T.slots)) (hT : TbOk T) (hk : mayV k = true) (hk0 : k.k ≠ 0) (hst : T.start k = some (a, b)) :
    CallW tbl 95 (.cons sv (.cons (VlA k) .nil)) M fun r M' => r = .ret (.tuple (.cons (VlA (T.nextV a b)) (.cons (.int 3 0) .nil))) ∧ But (fun _ => False) M M' := by
  refine CallW.wf fun hw => ?_
  have hn : T.slots.length = T.arr.length + 2 * T.prs.length + 2 := by simp only [Tb.slots, List.length_cons, List.length_append, flatP_len]
  have hb := hT.len
  obtain ⟨kk, kn⟩ := k
  refine CallW.intro h95 rfl (fr := .nod (.val .leaf sv .leaf) (.val .leaf (VlA ⟨kk, kn⟩) .leaf)) rfl ?_
  have b1 := But.new (S := fun _ => False) hw (.cells [.int 3 kk, .int 3 kn] false)
  have w1 := hw.new (.cells [.int 3 kk, .int 3 kn] false)
  have b2 := But.new (S := fun _ => False) w1 (.cells [.int 3 0, .int 3 0] false)
  have x1 : ((M.new (.cells [.int 3 kk, .int 3 kn] false)).new (.cells [.int 3 0, .int 3 0] false)).get M.next = some (.cells [.int 3 kk, .int 3 kn] false) := by simp only [go_sem, reduceCtorEq, Nat.reduceEqDiff, Nat.reduceAdd, Nat.reduceMul, Nat.reduceLeDiff, Nat.reduceSub, Nat.reduceLT, Nat.reduceBEq, Nat.reduceBNe, Int.reduceBEq, Int.reduceBNe, Int.reduceLT, Int.reduceLE, Int.reduceAdd, Int.reduceEq, Int.reduceNe, beq_self_eq_true, bne_self_eq_false, decide_true, decide_false, Bool.not_true, Bool.not_false, Bool.false_eq_true, false_and, and_false, not_true_eq_false, not_false_eq_true]
  have x2 : ((M.new (.cells [.int 3 kk, .int 3 kn] false)).new (.cells [.int 3 0, .int 3 0] false)).get M.next.succ = some (.cells [.int 3 0, .int 3 0] false) := by simp only [go_sem, reduceCtorEq, Nat.reduceEqDiff, Nat.reduceAdd, Nat.reduceMul, Nat.reduceLeDiff, Nat.reduceSub, Nat.reduceLT, Nat.reduceBEq, Nat.reduceBNe, Int.reduceBEq, Int.reduceBNe, Int.reduceLT, Int.reduceLE, Int.reduceAdd, Int.reduceEq, Int.reduceNe, beq_self_eq_true, bne_self_eq_false, decide_true, decide_false, Bool.not_true, Bool.not_false, Bool.false_eq_true, false_and, and_false, not_true_eq_false, not_false_eq_true]
  have tail := fun (va vp : AV) (fr : Tr AV) (M2 : Mem) (h : M2.wf) (hab : a ≤ T.arr.length ∧ b ≤ T.prs.length) (b12 : But (fun _ => False) M M2) (s1 : SlIs M2 va 2 (VlL T.arr)) (s2 : SlIs M2 vp 2 (VlL (flatP T.prs))) (x : M2.get M.next.succ = some (.cells [.int 3 0, .int 3 0] false)) f1 f2 f3 f4 f5 =>
    next_tail (Q := fun r M' => r = .ret (.tuple (.cons (VlA (T.nextV a b)) (.cons (.int 3 0) .nil))) ∧ But (fun _ => False) M M') (fr := fr) D h123 h hT hab.1 hab.2 s1 s2 x f1 f2 f3 f4 f5 (fun M' bb => ⟨rfl, But.fresh hw ((b12.any _).trans (bb.mono fun p e => .inr (by rw [e, Pos.num_succ]; omega)))⟩)
  rw [body95]
  generalize seqTail 5 cf95.body = tl at *
  simp only [go_sem, reduceCtorEq, Nat.reduceEqDiff, Nat.reduceAdd, Nat.reduceMul, Nat.reduceLeDiff, Nat.reduceSub, Nat.reduceLT, Nat.reduceBEq, Nat.reduceBNe, Int.reduceBEq, Int.reduceBNe, Int.reduceLT, Int.reduceLE, Int.reduceAdd, Int.reduceEq, Int.reduceNe, beq_self_eq_true, bne_self_eq_false, decide_true, decide_false, Bool.not_true, Bool.not_false, Bool.false_eq_true, false_and, and_false, not_true_eq_false, not_false_eq_true, cf95, seqHead, seqTail, VlA]
  refine (parts_spec D (hs.quiet (b1.trans b2)) hT).use ?_
  rintro r M1 hw1 ⟨va, vp, mp, rfl, b3, s1, s2, es, c, m1, m2⟩
  have l1 : slLen va = some T.arr.length := by rw [s1.len, vlL_len]
  have y1 := b3.get _ _ id x1
  have y2 := b3.get _ _ id x2
  simp only [go_sem, reduceCtorEq, Nat.reduceEqDiff, Nat.reduceAdd, Nat.reduceMul, Nat.reduceLeDiff, Nat.reduceSub, Nat.reduceLT, Nat.reduceBEq, Nat.reduceBNe, Int.reduceBEq, Int.reduceBNe, Int.reduceLT, Int.reduceLE, Int.reduceAdd, Int.reduceEq, Int.reduceNe, beq_self_eq_true, bne_self_eq_false, decide_true, decide_false, Bool.not_true, Bool.not_false, Bool.false_eq_true, false_and, and_false, not_true_eq_false, not_false_eq_true, y1]
  refine (may_spec D.h117 D.h143 (v := ⟨kk, kn⟩)).use ?_
  rintro r M2 hw2 ⟨rfl, b4⟩
  have z1 := b4.get _ _ id y1
  have z2 := b4.get _ _ id y2
  have m3 := b4.get _ _ id m1
  have hf := m2.find (VlA ⟨kk, kn⟩) ⟨_, rfl⟩
  have hok : okKey (.flat [.int, .int]) (VlA ⟨kk, kn⟩) = true := MapIs.okKey goodVl ⟨_, rfl⟩
  simp only [VlA] at hok
  have g0 : (kk == 0) = false := by simpa using hk0
  have bb := ((b1.trans b2).trans b3).trans b4
  cases hpos : posP T.prs ⟨kk, kn⟩ with
  | some i =>
    have hi := posP_lt hpos
    have hf' : es.find (.flat [.int, .int]) (VlA ⟨kk, kn⟩) = some (some (.int 3 ((2 * i : Nat) : Int))) := by rw [hf]; simp [posF, unV_of, hpos]
    simp only [VlA] at hf'
    simp only [Tb.start, hpos, Option.some.injEq, Prod.mk.injEq] at hst
    obtain ⟨rfl, rfl⟩ := hst
    have e1 : IntKind.i64.wrap (((2 * i : Nat) : Int) + 2) = ((2 * (i + 1) : Nat) : Int) := by rw [wrap64 (by omega) (by omega)]; omega
    simp only [go_sem, reduceCtorEq, Nat.reduceEqDiff, Nat.reduceAdd, Nat.reduceMul, Nat.reduceLeDiff, Nat.reduceSub, Nat.reduceLT, Nat.reduceBEq, Nat.reduceBNe, Int.reduceBEq, Int.reduceBNe, Int.reduceLT, Int.reduceLE, Int.reduceAdd, Int.reduceEq, Int.reduceNe, beq_self_eq_true, bne_self_eq_false, decide_true, decide_false, Bool.not_true, Bool.not_false, Bool.false_eq_true, false_and, and_false, not_true_eq_false, not_false_eq_true, hk, z1, m3, hok, hf', g0, l1, e1]
    refine tail va vp _ M2 hw2 ⟨Nat.le_refl _, by omega⟩ bb (s1.old b4.old) (s2.old b4.old) z2 ?_ ?_ ?_ ?_ ?_ <;> rfl
  | none =>
    have hf' : es.find (.flat [.int, .int]) (VlA ⟨kk, kn⟩) = some none := by rw [hf]; simp [posF, unV_of, hpos]
    simp only [VlA] at hf'
    simp only [Tb.start, hpos] at hst
    simp only [go_sem, reduceCtorEq, Nat.reduceEqDiff, Nat.reduceAdd, Nat.reduceMul, Nat.reduceLeDiff, Nat.reduceSub, Nat.reduceLT, Nat.reduceBEq, Nat.reduceBNe, Int.reduceBEq, Int.reduceBNe, Int.reduceLT, Int.reduceLE, Int.reduceAdd, Int.reduceEq, Int.reduceNe, beq_self_eq_true, bne_self_eq_false, decide_true, decide_false, Bool.not_true, Bool.not_false, Bool.false_eq_true, false_and, and_false, not_true_eq_false, not_false_eq_true, hk, z1, m3, hok, hf', g0, l1]
    refine (placed_spec D.h128 ⟨kk, kn⟩ _).use ?_
    rintro r M3 hw3 ⟨rfl, b5⟩
    have z3 := b5.get _ _ id z1
    have z4 := b5.get _ _ id z2
    cases hp : placedV ⟨kk, kn⟩ T.arr.length with
    | true =>
      rw [hp] at hst
      simp only [if_true, Option.some.injEq, Prod.mk.injEq] at hst
      obtain ⟨rfl, rfl⟩ := hst
      have hp' := hp
      simp only [placedV, Bool.and_eq_true, decide_eq_true_eq] at hp'
      obtain ⟨q1, q2, q3⟩ := hp'
      have e1 : (kn : Int) = ((kn.toNat : Nat) : Int) := by omega
      simp only [go_sem, reduceCtorEq, Nat.reduceEqDiff, Nat.reduceAdd, Nat.reduceMul, Nat.reduceLeDiff, Nat.reduceSub, Nat.reduceLT, Nat.reduceBEq, Nat.reduceBNe, Int.reduceBEq, Int.reduceBNe, Int.reduceLT, Int.reduceLE, Int.reduceAdd, Int.reduceEq, Int.reduceNe, beq_self_eq_true, bne_self_eq_false, decide_true, decide_false, Bool.not_true, Bool.not_false, Bool.false_eq_true, false_and, and_false, not_true_eq_false, not_false_eq_true, z3]
      refine tail va vp _ M3 hw3 ⟨by show kn.toNat ≤ _; omega, Nat.zero_le _⟩ (bb.trans b5) ((s1.old b4.old).old b5.old) ((s2.old b4.old).old b5.old) z4 ?_ ?_ ?_ ?_ ?_
      · rfl
      · rfl
      · rw [← e1]; rfl
      · rfl
      · rfl
    | false =>
      rw [hp] at hst
      simp only [Bool.false_eq_true, if_false] at hst
      simp only [go_sem, reduceCtorEq, Nat.reduceEqDiff, Nat.reduceAdd, Nat.reduceMul, Nat.reduceLeDiff, Nat.reduceSub, Nat.reduceLT, Nat.reduceBEq, Nat.reduceBNe, Int.reduceBEq, Int.reduceBNe, Int.reduceLT, Int.reduceLE, Int.reduceAdd, Int.reduceEq, Int.reduceNe, beq_self_eq_true, bne_self_eq_false, decide_true, decide_false, Bool.not_true, Bool.not_false, Bool.false_eq_true, false_and, and_false, not_true_eq_false, not_false_eq_true, z3]
      refine (null_spec' D.h129 ⟨kk, kn⟩).use ?_
      rintro r M4 hw4 ⟨rfl, b6⟩
      cases hv : nullV ⟨kk, kn⟩ with
      | false => rw [hv] at hst; simp at hst
      | true =>
        rw [hv] at hst
        simp only [if_true, Option.some.injEq, Prod.mk.injEq] at hst
        obtain ⟨rfl, rfl⟩ := hst
        simp only [go_sem, reduceCtorEq, Nat.reduceEqDiff, Nat.reduceAdd, Nat.reduceMul, Nat.reduceLeDiff, Nat.reduceSub, Nat.reduceLT, Nat.reduceBEq, Nat.reduceBNe, Int.reduceBEq, Int.reduceBNe, Int.reduceLT, Int.reduceLE, Int.reduceAdd, Int.reduceEq, Int.reduceNe, beq_self_eq_true, bne_self_eq_false, decide_true, decide_false, Bool.not_true, Bool.not_false, Bool.false_eq_true, false_and, and_false, not_true_eq_false, not_false_eq_true]
        refine tail va vp _ M4 hw4 ⟨Nat.zero_le _, Nat.zero_le _⟩ ((bb.trans b5).trans b6) (((s1.old b4.old).old b5.old).old b6.old) (((s2.old b4.old).old b5.old).old b6.old) (b6.get _ _ id z4) ?_ ?_ ?_ ?_ ?_ <;> rfl
end Go.Proofs.Ythpnhdopheofcaa

end
section
namespace Go.Proofs.Ythpnhdopheofcaa
open Go.Dx
variable {tbl : Nat → Option CFunc}

def posI (l : List (Vl × Vl)) (k : Vl) : Int := match posP l k with | some i => ((2 * i : Nat) : Int) | none => -1
theorem posP_at {l : List (Vl × Vl)} {k : Vl} {n : Nat} (hn : n < l.length) (h0 : posP (l.take n) k = none) (e : l[n].1 = k) : posP l k = some n := by
  unfold posP at h0 ⊢
  rw [List.findIdx?_eq_some_iff_getElem]
  refine ⟨hn, by simpa using e, fun j hj => ?_⟩
  rw [List.findIdx?_eq_none_iff] at h0
  have := h0 (l[j]'(by omega)) (List.mem_take_iff_getElem.2 ⟨j, by omega, rfl⟩)
  simpa using this
theorem posP_step {l : List (Vl × Vl)} {k : Vl} {n : Nat} (hn : n < l.length) (h0 : posP (l.take n) k = none) (e : l[n].1 ≠ k) : posP (l.take (n + 1)) k = none := by
  unfold posP at h0 ⊢
  rw [List.findIdx?_eq_none_iff] at h0 ⊢
  intro x hx
  rw [List.take_succ_eq_append_getElem hn] at hx
  rcases List.mem_append.1 hx with h | h
  · exact h0 x h
  · rw [List.mem_singleton.1 h]; simpa using e

theorem find_spec (h : tbl 148 = some cf148) {M : Mem} {tp : Pos} {va vp vg : AV} {op : Bool} {l : List (Vl × Vl)} {k : Vl} (hb : l.length ≤ 2 ^ 20) (ht : M.get tp = some (.cells [va, vp, vg] op)) (hs : SlIs M vp 2 (VlL (flatP l))) :
    CallW tbl 148 (.cons (.ptr tp 0) (.cons (VlA k) .nil)) M fun r M' => r = .ret (.int 3 (posI l k)) ∧ But (fun _ => False) M M' := by
  refine CallW.wf fun hw => ?_
  cases hkk : k with
  | mk kk kn =>
  refine CallW.intro h rfl (fr := .nod (.val .leaf (.ptr tp 0) .leaf) (.val .leaf (VlA ⟨kk, kn⟩) .leaf)) rfl ?_
  have b1 := But.new (S := fun _ => False) hw (.cells [.int 3 kk, .int 3 kn] false)
  have x1 : (M.new (.cells [.int 3 kk, .int 3 kn] false)).get M.next = some (.cells [.int 3 kk, .int 3 kn] false) := by simp only [go_sem, reduceCtorEq, Nat.reduceEqDiff, Nat.reduceAdd, Nat.reduceMul, Nat.reduceLeDiff, Nat.reduceSub, Nat.reduceLT, Nat.reduceBEq, Nat.reduceBNe, Int.reduceBEq, Int.reduceBNe, Int.reduceLT, Int.reduceLE, Int.reduceAdd, Int.reduceEq, Int.reduceNe, beq_self_eq_true, bne_self_eq_false, decide_true, decide_false, Bool.not_true, Bool.not_false, Bool.false_eq_true, false_and, and_false, not_true_eq_false, not_false_eq_true]
  have t1 := b1.get _ _ id ht
  have l2 : slLen vp = some (2 * l.length) := by rw [hs.len, vlL_len, flatP_len]
  simp only [go_sem, reduceCtorEq, Nat.reduceEqDiff, Nat.reduceAdd, Nat.reduceMul, Nat.reduceLeDiff, Nat.reduceSub, Nat.reduceLT, Nat.reduceBEq, Nat.reduceBNe, Int.reduceBEq, Int.reduceBNe, Int.reduceLT, Int.reduceLE, Int.reduceAdd, Int.reduceEq, Int.reduceNe, beq_self_eq_true, bne_self_eq_false, decide_true, decide_false, Bool.not_true, Bool.not_false, Bool.false_eq_true, false_and, and_false, not_true_eq_false, not_false_eq_true, cf148, VlA]
  generalize hM1 : M.new (.cells [.int 3 kk, .int 3 kn] false) = M1 at *
  refine loop_wp (I := fun n fr M' => n ≤ l.length ∧ M' = M1 ∧ posP (l.take (l.length - n)) k = none ∧ fr.get (.o .h) = some (.ptr tp 0) ∧ fr.get (.i (.o .h)) = some (.ptr M.next 0) ∧ fr.get (.i (.i .h)) = some (.int 3 ((2 * (l.length - n) : Nat) : Int))) (n := l.length) ?_ ?_
  · exact ⟨Nat.le_refl _, rfl, by rw [Nat.sub_self]; rfl, rfl, rfl, by rw [Nat.sub_self]; rfl⟩
  · rintro n fr M' ⟨i1, rfl, i3, f1, f2, f3⟩
    cases n with
    | zero =>
      have g : decide (((2 * (l.length - 0) : Nat) : Int) < ((2 * l.length : Nat) : Int)) = false := by simp only [decide_eq_false_iff_not]; omega
      rw [Nat.sub_zero, List.take_length] at i3
      have hp : posI l k = -1 := by simp only [posI, i3]
      simp only [go_sem, reduceCtorEq, Nat.reduceEqDiff, Nat.reduceAdd, Nat.reduceMul, Nat.reduceLeDiff, Nat.reduceSub, Nat.reduceLT, Nat.reduceBEq, Nat.reduceBNe, Int.reduceBEq, Int.reduceBNe, Int.reduceLT, Int.reduceLE, Int.reduceAdd, Int.reduceEq, Int.reduceNe, beq_self_eq_true, bne_self_eq_false, decide_true, decide_false, Bool.not_true, Bool.not_false, Bool.false_eq_true, false_and, and_false, not_true_eq_false, not_false_eq_true, f1, f2, f3, t1, l2, g]
      rw [hkk] at hp
      first | exact ⟨by rw [hp], b1⟩ | (simp only [hp]; exact ⟨rfl, b1⟩) | (rw [hp]; exact b1)
    | succ n =>
      have g : decide (((2 * (l.length - (n + 1)) : Nat) : Int) < ((2 * l.length : Nat) : Int)) = true := by simp only [decide_eq_true_eq]; omega
      have hi : l.length - (n + 1) < l.length := by omega
      have hfl : (flatP l).length = 2 * l.length := flatP_len _
      obtain ⟨q, qo, a1, a2⟩ := vl_at (hs.old b1.old) (i := 2 * (l.length - (n + 1))) (by omega)
      rw [hfl] at a1
      have k2 := flatP_key l hi
      rw [List.getElem?_eq_getElem (by omega)] at k2
      rw [Option.some.inj k2] at a2
      have g3 : 2 * (l.length - (n + 1)) < 2 * l.length := by omega
      by_cases he : l[l.length - (n + 1)].1 = k
      · have hp : posI l k = ((2 * (l.length - (n + 1)) : Nat) : Int) := by simp only [posI, posP_at hi i3 he]
        rw [he, hkk] at a2
        simp only at a2
        have ge : (((kk == kk) && (kn == kn)) != false) = true := by simp
        have g1 : (kk == kk) = true := by simp
        have g2 : (kn == kn) = true := by simp
        simp only [go_sem, reduceCtorEq, Nat.reduceEqDiff, Nat.reduceAdd, Nat.reduceMul, Nat.reduceLeDiff, Nat.reduceSub, Nat.reduceLT, Nat.reduceBEq, Nat.reduceBNe, Int.reduceBEq, Int.reduceBNe, Int.reduceLT, Int.reduceLE, Int.reduceAdd, Int.reduceEq, Int.reduceNe, beq_self_eq_true, bne_self_eq_false, decide_true, decide_false, Bool.not_true, Bool.not_false, Bool.false_eq_true, false_and, and_false, not_true_eq_false, not_false_eq_true, f1, f2, f3, t1, l2, g, g3, a1, a2, x1, g1, g2]
        rw [hkk] at hp
        first | exact ⟨by rw [hp], b1⟩ | (simp only [hp]; exact ⟨rfl, b1⟩) | (rw [hp]; exact b1)
      · have i3' := posP_step hi i3 he
        cases hxx : l[l.length - (n + 1)].1 with
        | mk xk xn =>
        rw [hxx] at a2
        simp only at a2
        have ge : (((xk == kk) && (xn == kn)) != false) = false := by
          have : ¬ (xk = kk ∧ xn = kn) := fun ⟨e1, e2⟩ => he (by rw [hxx, hkk, e1, e2])
          simpa using this
        have e1 : IntKind.i64.wrap (((2 * (l.length - (n + 1)) : Nat) : Int) + 2) = ((2 * (l.length - n) : Nat) : Int) := by rw [wrap64 (by omega) (by omega)]; omega
        simp only [go_sem, reduceCtorEq, Nat.reduceEqDiff, Nat.reduceAdd, Nat.reduceMul, Nat.reduceLeDiff, Nat.reduceSub, Nat.reduceLT, Nat.reduceBEq, Nat.reduceBNe, Int.reduceBEq, Int.reduceBNe, Int.reduceLT, Int.reduceLE, Int.reduceAdd, Int.reduceEq, Int.reduceNe, beq_self_eq_true, bne_self_eq_false, decide_true, decide_false, Bool.not_true, Bool.not_false, Bool.false_eq_true, false_and, and_false, not_true_eq_false, not_false_eq_true, f1, f2, f3, t1, l2, g, g3, a1, a2, x1, ge, e1]
        exact ⟨n, by omega, by omega, rfl, by rw [show l.length - n = l.length - (n + 1) + 1 by omega]; exact i3', by simp [Tr.get_set, f1], by simp [Tr.get_set, f2], by rw [Tr.get_set]; rfl⟩
end Go.Proofs.Ythpnhdopheofcaa

end
section
namespace Go.Proofs.Ythpnhdopheofcaa
open Go.Dx
variable {tbl : Nat → Option CFunc}

/-- leave, of values that hold nothing. -/
theorem leave_none (h : tbl 149 = some cf149) (h77 : tbl 77 = some cf77) (h117 : tbl 117 = some cf117) (h143 : tbl 143 = some cf143) {M : Mem} {tp : AV} {sv : AV} {l : List Vl} (hs : SlIs M sv 2 (VlL l)) (hl : l.length < 2 ^ 62) (hv : ∀ v ∈ l, refV v = false) :
    CallW tbl 149 (.cons tp (.cons sv .nil)) M fun r M' => r = .ret (.tuple .nil) ∧ But (fun _ => False) M M' := by
  refine CallW.wf fun hw => ?_
  refine CallW.intro h rfl (fr := .nod (.val .leaf tp .leaf) (.val .leaf sv .leaf)) rfl ?_
  have hlen := hs.len
  rw [vlL_len] at hlen
  simp only [go_sem, reduceCtorEq, Nat.reduceEqDiff, Nat.reduceAdd, Nat.reduceMul, Nat.reduceLeDiff, Nat.reduceSub, Nat.reduceLT, Nat.reduceBEq, Nat.reduceBNe, Int.reduceBEq, Int.reduceBNe, Int.reduceLT, Int.reduceLE, Int.reduceAdd, Int.reduceEq, Int.reduceNe, beq_self_eq_true, bne_self_eq_false, decide_true, decide_false, Bool.not_true, Bool.not_false, Bool.false_eq_true, false_and, and_false, not_true_eq_false, not_false_eq_true, cf149, hlen]
  refine loop_wp (I := fun n fr M' => n ≤ l.length ∧ M'.wf ∧ But (fun _ => False) M M' ∧ fr.get (.o (.o (.o .h))) = some sv ∧ fr.get (.i (.o (.o .h))) = some (.int 3 l.length) ∧ fr.get (.o (.i (.o .h))) = some (.int 3 ((l.length - n : Nat) : Int))) (n := l.length) ?_ ?_
  · exact ⟨Nat.le_refl _, hw, But.refl _ _, rfl, rfl, by rw [Nat.sub_self]; rfl⟩
  · rintro n fr M' ⟨i1, i2, i3, f1, f3, f4⟩
    cases n with
    | zero =>
      have g1 : decide (((l.length - 0 : Nat) : Int) < (l.length : Int)) = false := by simp only [decide_eq_false_iff_not]; omega
      simp only [go_sem, reduceCtorEq, Nat.reduceEqDiff, Nat.reduceAdd, Nat.reduceMul, Nat.reduceLeDiff, Nat.reduceSub, Nat.reduceLT, Nat.reduceBEq, Nat.reduceBNe, Int.reduceBEq, Int.reduceBNe, Int.reduceLT, Int.reduceLE, Int.reduceAdd, Int.reduceEq, Int.reduceNe, beq_self_eq_true, bne_self_eq_false, decide_true, decide_false, Bool.not_true, Bool.not_false, Bool.false_eq_true, false_and, and_false, not_true_eq_false, not_false_eq_true, f1, f3, f4, g1]
      first | exact i3 | exact ⟨rfl, i3⟩
    | succ n =>
      have g1 : decide (((l.length - (n + 1) : Nat) : Int) < (l.length : Int)) = true := by simp only [decide_eq_true_eq]; omega
      have hi : l.length - (n + 1) < l.length := by omega
      obtain ⟨p, po, a1, a2⟩ := vl_at (hs.old i3.old) (i := l.length - (n + 1)) hi
      have hvv := hv _ (List.getElem_mem hi)
      generalize l[l.length - (n + 1)] = v at *
      obtain ⟨vk, vn⟩ := v
      have b1 := But.fill i2 (.cells [.int 3 0, .int 3 0] false) (.cells [.int 3 vk, .int 3 vn] false)
      simp only [go_sem, reduceCtorEq, Nat.reduceEqDiff, Nat.reduceAdd, Nat.reduceMul, Nat.reduceLeDiff, Nat.reduceSub, Nat.reduceLT, Nat.reduceBEq, Nat.reduceBNe, Int.reduceBEq, Int.reduceBNe, Int.reduceLT, Int.reduceLE, Int.reduceAdd, Int.reduceEq, Int.reduceNe, beq_self_eq_true, bne_self_eq_false, decide_true, decide_false, Bool.not_true, Bool.not_false, Bool.false_eq_true, false_and, and_false, not_true_eq_false, not_false_eq_true, f1, f3, f4, g1, a1, a2, hi]
      refine (ref_spec h77 h117 h143 (v := ⟨vk, vn⟩)).use ?_
      rintro r M2 hw2 ⟨rfl, b2⟩
      have e1 : IntKind.i64.wrap (((l.length - (n + 1) : Nat) : Int) + 1) = ((l.length - n : Nat) : Int) := by rw [wrap64 (by omega) (by omega)]; omega
      simp only [go_sem, reduceCtorEq, Nat.reduceEqDiff, Nat.reduceAdd, Nat.reduceMul, Nat.reduceLeDiff, Nat.reduceSub, Nat.reduceLT, Nat.reduceBEq, Nat.reduceBNe, Int.reduceBEq, Int.reduceBNe, Int.reduceLT, Int.reduceLE, Int.reduceAdd, Int.reduceEq, Int.reduceNe, beq_self_eq_true, bne_self_eq_false, decide_true, decide_false, Bool.not_true, Bool.not_false, Bool.false_eq_true, false_and, and_false, not_true_eq_false, not_false_eq_true, hvv, f1, f3, f4, e1]
      exact ⟨n, by omega, by omega, hw2, (i3.trans b1).trans b2, by simp [Tr.get_set, f1], by simp [Tr.get_set, f3], by rw [Tr.get_set]; rfl⟩
end Go.Proofs.Ythpnhdopheofcaa

end
section
namespace Go.Proofs.Ythpnhdopheofcaa
open Go.Dx
variable {tbl : Nat → Option CFunc}

def flatV (l : List (Vl × Vl)) : List (List AV) := VlL (flatP l)
theorem flatV_cons (x : Vl × Vl) (l : List (Vl × Vl)) : flatV (x :: l) = VlR x.1 :: VlR x.2 :: flatV l := rfl
theorem flatV_len (l : List (Vl × Vl)) : (flatV l).length = 2 * l.length := by rw [flatV, vlL_len, flatP_len]
theorem flatV_app (l r : List (Vl × Vl)) : flatV (l ++ r) = flatV l ++ flatV r := by
  induction l with
  | nil => rfl
  | cons x l ih => rw [List.cons_append, flatV_cons, flatV_cons, ih]; rfl
theorem flatV_take (l : List (Vl × Vl)) (j : Nat) : flatV (l.take j) = (flatV l).take (2 * j) := by
  induction l generalizing j with
  | nil => simp [flatV, flatP, VlL]
  | cons x l ih =>
    cases j with
    | zero => rfl
    | succ j =>
      rw [List.take_succ_cons, flatV_cons, flatV_cons, ih, show 2 * (j + 1) = (2 * j + 1) + 1 by omega, List.take_succ_cons, List.take_succ_cons]
theorem flatV_drop (l : List (Vl × Vl)) (j : Nat) : flatV (l.drop j) = (flatV l).drop (2 * j) := by
  induction l generalizing j with
  | nil => simp [flatV, flatP, VlL]
  | cons x l ih =>
    cases j with
    | zero => rfl
    | succ j =>
      rw [List.drop_succ_cons, flatV_cons, ih, show 2 * (j + 1) = (2 * j + 1) + 1 by omega, List.drop_succ_cons, List.drop_succ_cons]

/-- A pair taken out: the last one comes to its place. -/
def takeP (l : List (Vl × Vl)) (i : Nat) : List (Vl × Vl) := (l.take i ++ l.drop (l.length - 1) ++ l.drop (i + 1)).take (l.length - 1)

/-- dict's table, as it is changed. -/
structure DtB (M : Mem) (own : Own) (tp : Pos) (va vp vg : AV) (arr : List Vl) (prs : List (Vl × Vl)) : Prop where
  inn : own.in M
  tpo : own tp = some (30, 0)
  tpc : M.get tp = some (.cells [va, vp, vg] false)
  arr_ : SlO M own (31, 0) va 2 (VlL arr)
  prs_ : SlO M own (32, 0) vp 2 (flatV prs)
  gon : SlO M own (33, 0) vg 2 []

theorem DtB.setPrs {M M1 : Mem} {own own1 : Own} {tp : Pos} {va vp vg v : AV} {arr : List Vl} {prs prs' : List (Vl × Vl)} (h : DtB M own tp va vp vg arr prs) (u : OwnUp (32, 0) M M1 own own1) (hb : But (fun p => own p = some (32, 0)) M M1) (hs : SlO M1 own1 (32, 0) v 2 (flatV prs')) :
    DtB (M1.put tp (.cells [va, v, vg] false)) own1 tp va v vg arr prs' := by
  have hq := u.old h.tpo
  have kp : ∀ p c t, own1 p = some t → t ≠ (30, 0) → M1.get p = some c → (M1.put tp (.cells [va, v, vg] false)).get p = some c := fun p c t ho ht hp => by
    show (if p = tp then _ else M1.get p) = _
    rw [if_neg fun e => by rw [e, hq] at ho; cases ho; exact ht rfl]
    exact hp
  have k0 : ∀ p c t, own p = some t → t ≠ (32, 0) → M.get p = some c → M1.get p = some c := fun p c t ho ht hp => hb.get p c (fun e => ht (by rw [ho] at e; exact Option.some.inj e)) hp
  exact ⟨u.in_ h.inn hb.next, hq, by simp [Mem.put], h.arr_.keep (fun p c ho hp => kp p c _ (u.old ho) (by simp) (k0 p c _ ho (by simp) hp)) fun p ho => u.old ho,
    hs.keep (fun p c ho hp => kp p c _ ho (by simp) hp) fun _ h => h, h.gon.keep (fun p c ho hp => kp p c _ (u.old ho) (by simp) (k0 p c _ ho (by simp) hp)) fun p ho => u.old ho⟩
theorem DtB.setArr {M M1 : Mem} {own own1 : Own} {tp : Pos} {va vp vg v : AV} {arr arr' : List Vl} {prs : List (Vl × Vl)} (h : DtB M own tp va vp vg arr prs) (u : OwnUp (31, 0) M M1 own own1) (hb : But (fun p => own p = some (31, 0)) M M1) (hs : SlO M1 own1 (31, 0) v 2 (VlL arr')) :
    DtB (M1.put tp (.cells [v, vp, vg] false)) own1 tp v vp vg arr' prs := by
  have hq := u.old h.tpo
  have kp : ∀ p c t, own1 p = some t → t ≠ (30, 0) → M1.get p = some c → (M1.put tp (.cells [v, vp, vg] false)).get p = some c := fun p c t ho ht hp => by
    show (if p = tp then _ else M1.get p) = _
    rw [if_neg fun e => by rw [e, hq] at ho; cases ho; exact ht rfl]
    exact hp
  have k0 : ∀ p c t, own p = some t → t ≠ (31, 0) → M.get p = some c → M1.get p = some c := fun p c t ho ht hp => hb.get p c (fun e => ht (by rw [ho] at e; exact Option.some.inj e)) hp
  exact ⟨u.in_ h.inn hb.next, hq, by simp [Mem.put], hs.keep (fun p c ho hp => kp p c _ ho (by simp) hp) fun _ h => h,
    h.prs_.keep (fun p c ho hp => kp p c _ (u.old ho) (by simp) (k0 p c _ ho (by simp) hp)) fun p ho => u.old ho, h.gon.keep (fun p c ho hp => kp p c _ (u.old ho) (by simp) (k0 p c _ ho (by simp) hp)) fun p ho => u.old ho⟩
theorem DtB.keep {M M' : Mem} {own : Own} {tp : Pos} {va vp vg : AV} {arr : List Vl} {prs : List (Vl × Vl)} (h : DtB M own tp va vp vg arr prs) (hb : But (fun p => own p = none) M M') : DtB M' own tp va vp vg arr prs := by
  have k : ∀ p b t, own p = some t → M.get p = some b → M'.get p = some b := fun p b t ho hp => hb.get p b (by rw [ho]; simp) hp
  have ks : ∀ {t v size L}, SlO M own t v size L → SlO M' own t v size L := fun hs => hs.keep (fun p b ho hp => k p b _ ho hp) fun _ h => h
  exact ⟨Own.in.mono h.inn hb.next, h.tpo, k _ _ _ h.tpo h.tpc, ks h.arr_, ks h.prs_, ks h.gon⟩
end Go.Proofs.Ythpnhdopheofcaa

end
section
namespace Go.Proofs.Ythpnhdopheofcaa
open Go.Dx
variable {tbl : Nat → Option CFunc}

theorem takeP_len {l : List (Vl × Vl)} {i : Nat} (hi : i < l.length) : (takeP l i).length = l.length - 1 := by
  simp only [takeP, List.length_take, List.length_append, List.length_drop]; omega
theorem flatV_takeP {l : List (Vl × Vl)} {i : Nat} (hi : i < l.length) : ((flatV l).take (2 * i) ++ (flatV l).drop ((flatV l).length - 2) ++ (flatV l).drop (2 * i + 2)).take (2 * l.length - 2) = flatV (takeP l i) := by
  have e1 : (flatV l).length - 2 = 2 * (l.length - 1) := by rw [flatV_len]; omega
  have e2 : 2 * i + 2 = 2 * (i + 1) := by omega
  have e3 : 2 * l.length - 2 = 2 * (l.length - 1) := by omega
  rw [e1, e2, e3, ← flatV_take, ← flatV_drop, ← flatV_drop, ← flatV_app, ← flatV_app, ← flatV_take]
  rfl

theorem take_spec (h : tbl 150 = some cf150) {M : Mem} {own : Own} {tp : Pos} {va vp vg : AV} {arr : List Vl} {prs : List (Vl × Vl)} {i : Nat} (hB : DtB M own tp va vp vg arr prs) (hi : i < prs.length) (hl : prs.length ≤ 2 ^ 20) :
    CallW tbl 150 (.cons (.ptr tp 0) (.cons (.int 3 ((2 * i : Nat) : Int)) .nil)) M fun r M' => r = .ret (.tuple .nil) ∧ (∃ vp', DtB M' own tp va vp' vg arr (takeP prs i)) ∧ But (fun p => own p ≠ none) M M' := by
  refine CallW.wf fun hw => ?_
  refine CallW.intro h rfl (fr := .nod (.val .leaf (.ptr tp 0) .leaf) (.val .leaf (.int 3 ((2 * i : Nat) : Int)) .leaf)) rfl ?_
  have hlen : slLen vp = some (2 * prs.length) := by rw [hB.prs_.len, flatV_len]
  have htp := hB.tpc
  have e1 : IntKind.i64.wrap (((2 * prs.length : Nat) : Int) - 2) = ((2 * prs.length - 2 : Nat) : Int) := by rw [wrap64 (by omega) (by omega)]; omega
  obtain ⟨d, s, p, b, p1, p2, p3, p4, ⟨b0, p5⟩, p6⟩ := hB.prs_.copyTail (by omega) (i := 2 * i) (k := 2) (by omega) (by rw [flatV_len]; omega)
  have ed : (flatV prs).length - 2 = 2 * prs.length - 2 := by rw [flatV_len]
  rw [ed] at p2
  have ntp : (tp = p) = False := eq_false fun e => by have := hB.tpo; rw [e, p4] at this; cases this
  have hlen6 : 2 * prs.length - 2 ≤ ((flatV prs).take (2 * i) ++ (flatV prs).drop ((flatV prs).length - 2) ++ (flatV prs).drop (2 * i + 2)).length := by
    simp only [List.length_append, List.length_take, List.length_drop, flatV_len]; omega
  obtain ⟨v7, q7, s7⟩ := p6.take_ (by omega) (k := 2 * prs.length - 2) hlen6
  rw [flatV_takeP hi] at s7
  have hc7 := s7.cell
  have bp : But (fun q => own q = some (32, 0)) M (M.put p b) := But.put (p := p) _ p4 _
  have hB' := hB.setPrs (M1 := M.put p b) (own1 := own) (OwnUp.refl _ _ _ _) bp s7
  simp only [go_sem, reduceCtorEq, Nat.reduceEqDiff, Nat.reduceAdd, Nat.reduceMul, Nat.reduceLeDiff, Nat.reduceSub, Nat.reduceLT, Nat.reduceBEq, Nat.reduceBNe, Int.reduceBEq, Int.reduceBNe, Int.reduceLT, Int.reduceLE, Int.reduceAdd, Int.reduceEq, Int.reduceNe, beq_self_eq_true, bne_self_eq_false, decide_true, decide_false, Bool.not_true, Bool.not_false, Bool.false_eq_true, false_and, and_false, not_true_eq_false, not_false_eq_true, cf150, htp, hlen, e1, p1, p2, p3, ntp, q7, hc7]
  exact ⟨⟨v7, hB'⟩, (bp.mono fun q e => by rw [e]; simp).trans (But.put (p := tp) _ (by rw [hB.tpo]; simp) _)⟩
end Go.Proofs.Ythpnhdopheofcaa

end
section
namespace Go.Proofs.Ythpnhdopheofcaa
open Go.Dx
variable {tbl : Nat → Option CFunc}

/-- Without the empty places at the end. -/
def trimF : Nat → List Vl → List Vl
  | 0, l => l
  | n + 1, l => match l.getLast? with
    | some v => if nullV v = true then trimF n l.dropLast else l
    | none => l
def layV (l : List Vl) (i : Nat) (v : Vl) : List Vl := if i + 1 < l.length then l.set i v else trimF l.length (l.set i v)

theorem DtB.rowArr {M : Mem} {own : Own} {tp p : Pos} {b : MB} {va vp vg : AV} {arr arr' : List Vl} {prs : List (Vl × Vl)} (h : DtB M own tp va vp vg arr prs) (hq : own p = some (31, 0)) (s : SlO (M.put p b) own (31, 0) va 2 (VlL arr')) : DtB (M.put p b) own tp va vp vg arr' prs := by
  have kp : ∀ q c t, own q = some t → t ≠ (31, 0) → M.get q = some c → (M.put p b).get q = some c := fun q c t ho ht hp => by
    show (if q = p then _ else M.get q) = _
    rw [if_neg fun e => by rw [e, hq] at ho; cases ho; exact ht rfl]
    exact hp
  exact ⟨Own.in.mono h.inn (Nat.le_refl _), h.tpo, kp _ _ _ h.tpo (by simp) h.tpc, s, h.prs_.keep (fun q c ho hp => kp q c _ ho (by simp) hp) fun _ h => h, h.gon.keep (fun q c ho hp => kp q c _ ho (by simp) hp) fun _ h => h⟩
theorem lay_spec (D : DcT tbl) (h147 : tbl 147 = some cf147) (h149 : tbl 149 = some cf149) (h77 : tbl 77 = some cf77) {M : Mem} {own : Own} {tp : Pos} {va vp vg : AV} {arr : List Vl} {prs : List (Vl × Vl)} {i : Nat} {v : Vl} (hB : DtB M own tp va vp vg arr prs) (hi : i < arr.length) (hl : arr.length ≤ 2 ^ 20) (hr : refV arr[i] = false) :
    CallW tbl 147 (.cons (.ptr tp 0) (.cons (.int 3 (i : Int)) (.cons (VlA v) .nil))) M fun r M' => r = .ret (.tuple .nil) ∧ (∃ va', DtB M' own tp va' vp vg (layV arr i v) prs) ∧ But (fun p => own p ≠ none) M M' := by
  refine CallW.wf fun hw => ?_
  obtain ⟨vk, vn⟩ := v
  refine CallW.intro h147 rfl (fr := .nod (.val (.val .leaf (VlA ⟨vk, vn⟩) .leaf) (.ptr tp 0) .leaf) (.val .leaf (.int 3 (i : Int)) .leaf)) rfl ?_
  have b1 := But.new (S := fun _ => False) hw (.cells [.int 3 vk, .int 3 vn] false)
  have w1 := hw.new (.cells [.int 3 vk, .int 3 vn] false)
  have x1 : (M.new (.cells [.int 3 vk, .int 3 vn] false)).get M.next = some (.cells [.int 3 vk, .int 3 vn] false) := by simp only [go_sem, reduceCtorEq, Nat.reduceEqDiff, Nat.reduceAdd, Nat.reduceMul, Nat.reduceLeDiff, Nat.reduceSub, Nat.reduceLT, Nat.reduceBEq, Nat.reduceBNe, Int.reduceBEq, Int.reduceBNe, Int.reduceLT, Int.reduceLE, Int.reduceAdd, Int.reduceEq, Int.reduceNe, beq_self_eq_true, bne_self_eq_false, decide_true, decide_false, Bool.not_true, Bool.not_false, Bool.false_eq_true, false_and, and_false, not_true_eq_false, not_false_eq_true]
  have hB1 := hB.keep (b1.any _)
  have htp := hB.tpc
  have ne1 := hw.ne htp
  have hlen : slLen va = some arr.length := by rw [hB.arr_.len, vlL_len]
  obtain ⟨p, po, a1, a2⟩ := vl_at hB.arr_.rows hi
  have hbp : ∃ bp, M.get p = some bp := by
    cases hx : M.get p with
    | none => rw [hx] at a2; cases a2
    | some bp => exact ⟨bp, rfl⟩
  obtain ⟨bp, hbp⟩ := hbp
  have ne2 := hw.ne hbp
  have hnx : (M.new (.cells [.int 3 vk, .int 3 vn] false)).next = M.next.succ := rfl
  simp only [go_sem, reduceCtorEq, Nat.reduceEqDiff, Nat.reduceAdd, Nat.reduceMul, Nat.reduceLeDiff, Nat.reduceSub, Nat.reduceLT, Nat.reduceBEq, Nat.reduceBNe, Int.reduceBEq, Int.reduceBNe, Int.reduceLT, Int.reduceLE, Int.reduceAdd, Int.reduceEq, Int.reduceNe, beq_self_eq_true, bne_self_eq_false, decide_true, decide_false, Bool.not_true, Bool.not_false, Bool.false_eq_true, false_and, and_false, not_true_eq_false, not_false_eq_true, cf147, VlA, htp, ne1, a1, a2, ne2, hi]
  generalize hM1 : M.new (.cells [.int 3 vk, .int 3 vn] false) = M1 at *
  have b2 := But.new (S := fun _ => False) w1 (.cells [.int 3 arr[i].k, .int 3 arr[i].n] false)
  have hs2 : SlIs (M1.new (.cells [.int 3 arr[i].k, .int 3 arr[i].n] false)) (.slice M1.next 0 1 1) 2 (VlL [arr[i]]) := SlIs.made (X := VlL [arr[i]]) (x := [.int 3 arr[i].k, .int 3 arr[i].n]) (op := false) (by simp [Mem.new]) (by simp [VlL, VlR]) (by intro y hy; simp [VlL, VlR] at hy; subst hy; rfl) rfl
  rw [hnx] at hs2
  refine (leave_none h149 h77 D.h117 D.h143 hs2 (by show (1 : Nat) < 2 ^ 62; decide) (by intro w hw'; rw [List.mem_singleton.1 hw']; exact hr)).use ?_
  rintro r M2 hw2 ⟨rfl, b3⟩
  have hB2 := hB1.keep ((b2.trans b3).any _)
  have x2 := (b2.trans b3).get _ _ id x1
  have htp2 := hB2.tpc
  have a1' := a1
  obtain ⟨b, st, hq, ⟨b0, hb0⟩, s4⟩ := hB2.arr_.set_ (i := i) (by rw [vlL_len]; exact hi) (x := [.int 3 vk, .int 3 vn]) rfl rfl a1
  rw [Mem.store_eq] at st
  have ntp : (tp = p) = False := eq_false fun e => by have := hB.tpo; rw [e, hq] at this; cases this
  have hrow : (VlL arr).set i [.int 3 vk, .int 3 vn] = VlL (arr.set i ⟨vk, vn⟩) := by simp [VlL, VlR, List.map_set]
  rw [hrow] at s4
  have hB3 := hB2.rowArr hq s4
  have hlen3 : slLen va = some arr.length := hlen
  have e1 : IntKind.i64.wrap ((arr.length : Int) - 1) = ((arr.length - 1 : Nat) : Int) := by rw [wrap64 (by omega) (by omega)]; omega
  have bp : But (fun q => own q ≠ none) M2 (M2.put p b) := But.put (p := p) _ (by rw [hq]; simp) _
  have w3 : (M2.put p b).wf := hw2.put hb0 b
  have b123 : But (fun q => own q ≠ none) M M2 := (b1.any _).trans ((b2.trans b3).any _)
  by_cases hlt : i + 1 < arr.length
  · have g : decide ((i : Int) < ((arr.length - 1 : Nat) : Int)) = true := by simp only [decide_eq_true_eq]; omega
    have hlay : layV arr i ⟨vk, vn⟩ = arr.set i ⟨vk, vn⟩ := by simp only [layV, if_pos hlt]
    simp only [go_sem, reduceCtorEq, Nat.reduceEqDiff, Nat.reduceAdd, Nat.reduceMul, Nat.reduceLeDiff, Nat.reduceSub, Nat.reduceLT, Nat.reduceBEq, Nat.reduceBNe, Int.reduceBEq, Int.reduceBNe, Int.reduceLT, Int.reduceLE, Int.reduceAdd, Int.reduceEq, Int.reduceNe, beq_self_eq_true, bne_self_eq_false, decide_true, decide_false, Bool.not_true, Bool.not_false, Bool.false_eq_true, false_and, and_false, not_true_eq_false, not_false_eq_true, htp2, a1, hi, x2, st, ntp, hlen, e1, g]
    rw [hlay]
    exact ⟨⟨va, hB3⟩, b123.trans bp⟩
  · have g : decide ((i : Int) < ((arr.length - 1 : Nat) : Int)) = false := by simp only [decide_eq_false_iff_not]; omega
    have hlay : layV arr i ⟨vk, vn⟩ = trimF arr.length (arr.set i ⟨vk, vn⟩) := by simp only [layV, if_neg hlt]
    simp only [go_sem, reduceCtorEq, Nat.reduceEqDiff, Nat.reduceAdd, Nat.reduceMul, Nat.reduceLeDiff, Nat.reduceSub, Nat.reduceLT, Nat.reduceBEq, Nat.reduceBNe, Int.reduceBEq, Int.reduceBNe, Int.reduceLT, Int.reduceLE, Int.reduceAdd, Int.reduceEq, Int.reduceNe, beq_self_eq_true, bne_self_eq_false, decide_true, decide_false, Bool.not_true, Bool.not_false, Bool.false_eq_true, false_and, and_false, not_true_eq_false, not_false_eq_true, htp2, a1, hi, x2, st, ntp, hlen, e1, g]
    refine loop_wp (I := fun n fr M' => M'.wf ∧ n ≤ arr.length ∧ (∃ va' arr', DtB M' own tp va' vp vg arr' prs ∧ arr'.length = n ∧ trimF n arr' = trimF arr.length (arr.set i ⟨vk, vn⟩)) ∧ But (fun q => own q ≠ none) (M2.put p b) M' ∧ fr.get (.o .h) = some (.ptr tp 0)) (n := arr.length) ?_ ?_
    · exact ⟨w3, Nat.le_refl _, ⟨va, _, hB3, by rw [List.length_set], rfl⟩, But.refl _ _, rfl⟩
    · rintro n fr M' ⟨i1, i2, ⟨va', arr', i3, i4, i5⟩, i6, f1⟩
      have ht := i3.tpc
      have hl' : slLen va' = some n := by rw [i3.arr_.len, vlL_len, i4]
      cases n with
      | zero =>
        have g0 : decide ((0 : Int) < ((0 : Nat) : Int)) = false := rfl
        simp only [go_sem, reduceCtorEq, Nat.reduceEqDiff, Nat.reduceAdd, Nat.reduceMul, Nat.reduceLeDiff, Nat.reduceSub, Nat.reduceLT, Nat.reduceBEq, Nat.reduceBNe, Int.reduceBEq, Int.reduceBNe, Int.reduceLT, Int.reduceLE, Int.reduceAdd, Int.reduceEq, Int.reduceNe, beq_self_eq_true, bne_self_eq_false, decide_true, decide_false, Bool.not_true, Bool.not_false, Bool.false_eq_true, false_and, and_false, not_true_eq_false, not_false_eq_true, f1, ht, hl', g0]
        rw [hlay, ← i5]
        exact ⟨⟨va', i3⟩, (b123.trans bp).trans i6⟩
      | succ n =>
        have g0 : decide ((0 : Int) < ((n + 1 : Nat) : Int)) = true := by simp only [decide_eq_true_eq]; omega
        have e2 : IntKind.i64.wrap (((n + 1 : Nat) : Int) - 1) = (n : Int) := by rw [wrap64 (by omega) (by omega)]; omega
        have hn : n < arr'.length := by omega
        obtain ⟨q', qo', c1, c2⟩ := vl_at i3.arr_.rows hn
        rw [i4] at c1
        have g3 : n < n + 1 := by omega
        have hlast : arr'.getLast? = some arr'[n] := by rw [List.getLast?_eq_getElem?, i4]; exact List.getElem?_eq_getElem hn
        simp only [go_sem, reduceCtorEq, Nat.reduceEqDiff, Nat.reduceAdd, Nat.reduceMul, Nat.reduceLeDiff, Nat.reduceSub, Nat.reduceLT, Nat.reduceBEq, Nat.reduceBNe, Int.reduceBEq, Int.reduceBNe, Int.reduceLT, Int.reduceLE, Int.reduceAdd, Int.reduceEq, Int.reduceNe, beq_self_eq_true, bne_self_eq_false, decide_true, decide_false, Bool.not_true, Bool.not_false, Bool.false_eq_true, false_and, and_false, not_true_eq_false, not_false_eq_true, f1, ht, hl', g0, e2, c1, c2, g3]
        refine (null_spec' D.h129 arr'[n]).use ?_
        rintro r M5 hw5 ⟨rfl, b5⟩
        have hB5 := i3.keep (b5.any _)
        have ht5 := hB5.tpc
        simp only [trimF, hlast] at i5
        cases hv : nullV arr'[n] with
        | true =>
          rw [hv] at i5
          simp only [if_true] at i5
          obtain ⟨v7, q7, s7⟩ := hB5.arr_.take_ (by omega) (k := n) (by rw [vlL_len]; omega)
          have hc7 := s7.cell
          have hdl : (VlL arr').take n = VlL arr'.dropLast := by rw [List.dropLast_eq_take, i4]; simp [VlL, List.map_take]
          rw [hdl] at s7
          have hB6 := hB5.setArr (M1 := M5) (own1 := own) (OwnUp.refl _ _ _ _) (But.refl _ _) s7
          simp only [go_sem, reduceCtorEq, Nat.reduceEqDiff, Nat.reduceAdd, Nat.reduceMul, Nat.reduceLeDiff, Nat.reduceSub, Nat.reduceLT, Nat.reduceBEq, Nat.reduceBNe, Int.reduceBEq, Int.reduceBNe, Int.reduceLT, Int.reduceLE, Int.reduceAdd, Int.reduceEq, Int.reduceNe, beq_self_eq_true, bne_self_eq_false, decide_true, decide_false, Bool.not_true, Bool.not_false, Bool.false_eq_true, false_and, and_false, not_true_eq_false, not_false_eq_true, f1, ht5, hl', e2, q7, hc7]
          exact ⟨n, by omega, hw5.put ht5 _, by omega, ⟨v7, _, hB6, by rw [List.length_dropLast]; omega, i5⟩, (i6.trans (b5.any _)).trans (But.put (p := tp) _ (by rw [hB5.tpo]; simp) _), by simp [Tr.get_set, f1]⟩
        | false =>
          rw [hv] at i5
          simp only [Bool.false_eq_true, if_false] at i5
          simp only [go_sem, reduceCtorEq, Nat.reduceEqDiff, Nat.reduceAdd, Nat.reduceMul, Nat.reduceLeDiff, Nat.reduceSub, Nat.reduceLT, Nat.reduceBEq, Nat.reduceBNe, Int.reduceBEq, Int.reduceBNe, Int.reduceLT, Int.reduceLE, Int.reduceAdd, Int.reduceEq, Int.reduceNe, beq_self_eq_true, bne_self_eq_false, decide_true, decide_false, Bool.not_true, Bool.not_false, Bool.false_eq_true, false_and, and_false, not_true_eq_false, not_false_eq_true, f1]
          rw [hlay, ← i5]
          exact ⟨⟨va', hB5⟩, ((b123.trans bp).trans i6).trans (b5.any _)⟩
end Go.Proofs.Ythpnhdopheofcaa

end
section
namespace Go.Proofs.Ythpnhdopheofcaa
open Go.Dx
variable {tbl : Nat → Option CFunc}

/-- What grows: the places that come next, from the pairs. -/
def growF : Nat → List Vl → List (Vl × Vl) → List Vl × List (Vl × Vl)
  | 0, a, l => (a, l)
  | n + 1, a, l => match posP l ⟨3, (a.length : Int) + 1⟩ with
    | some j => growF n (a ++ [((l[j]?).map (·.2)).getD ⟨1, 0⟩]) (takeP l j)
    | none => (a, l)

/-- Rows of a block that stands alone, appended (as in SkJ). -/
theorem slO_pushFrom' {M : Mem} {own : Own} {t : Tag} {v : AV} {size : Nat} {L X : List (List AV)} {n c : Nat} {x : List AV} {q : Pos} (h : SlO M own t v size L) (hw : M.wf) (hi : own.in M) (hq : M.get q = some (.cells x false)) (hn : n = X.length) (hxx : x = X.flatten) (hx : ∀ x ∈ X, x.length = size ∧ x.all isCell = true) (hs0 : 0 < size) (hm : L.length + X.length ≤ most) :
    ∃ v' M' own', appO M size v (.slice q 0 n c) = some (v', M') ∧ SlO M' own' t v' size (L ++ X) ∧ OwnUp t M M' own own' ∧ But (fun p => own p = some t) M M' ∧ M'.wf := by
  subst hn hxx
  obtain ⟨v', M', own', h1, h2, h3, h4, h5⟩ := h.append_ hw hi hx hs0 hm
  refine ⟨v', M', own', ?_, h2, h3, h4, h5⟩
  have hsrc : srcM M size X.length (.slice q 0 X.length c) = some X.flatten :=
    (SlIs.made (X := X) (op := false) hq rfl (fun y hy => (hx y hy).1) rfl).src rfl (by simp)
  simp only [appO, lenOf_slice, Option.bind_some, hsrc]
  exact h1

theorem grow_spec (D : DcT tbl) (h151 : tbl 151 = some cf151) (h150 : tbl 150 = some cf150) (h148 : tbl 148 = some cf148) (h123 : tbl 123 = some cf123) {M : Mem} {own : Own} {tp : Pos} {va vp vg : AV} {arr : List Vl} {prs : List (Vl × Vl)} {v : Vl} (hB : DtB M own tp va vp vg arr prs) (hl : arr.length + prs.length ≤ 2 ^ 19) :
    CallW tbl 151 (.cons (.ptr tp 0) (.cons (VlA v) .nil)) M fun r M' => r = .ret (.tuple .nil) ∧ (∃ own' va' vp', DtB M' own' tp va' vp' vg (growF prs.length (arr ++ [v]) prs).1 (growF prs.length (arr ++ [v]) prs).2 ∧ ∀ p, own p = none → own' p = none ∨ M.next.num ≤ p.num) ∧ But (fun p => own p ≠ none) M M' := by
  refine CallW.wf fun hw => ?_
  obtain ⟨vk, vn⟩ := v
  refine CallW.intro h151 rfl (fr := .nod (.val .leaf (.ptr tp 0) .leaf) (.val .leaf (VlA ⟨vk, vn⟩) .leaf)) rfl ?_
  have htp := hB.tpc
  have ne1 := hw.ne htp
  have b1 := But.new (S := fun _ => False) hw (.cells [.int 3 vk, .int 3 vn] false)
  have w1 := hw.new (.cells [.int 3 vk, .int 3 vn] false)
  have hB1 := hB.keep (b1.any _)
  obtain ⟨v3, M3, own3, p3, s3, u3, b3, w3⟩ := hB1.arr_.push_ w1 hB1.inn (n := 1) (c := 1) (X := [VlR ⟨vk, vn⟩]) (x := [.int 3 vk, .int 3 vn]) rfl rfl (by simp [VlR, isCell]) (by omega) (by rw [vlL_len]; simp only [most, List.length_cons, List.length_nil]; omega)
  have p3' : appO (({ next := M.next.succ.succ, get := (M.new (.cells [.int 3 vk, .int 3 vn] false)).get } : Mem).put M.next.succ (.cells [.int 3 vk, .int 3 vn] false)) 2 va (.slice M.next.succ 0 1 1) = some (v3, M3) := p3
  have hc3 := s3.cell
  have hs3 : VlL arr ++ [VlR ⟨vk, vn⟩] = VlL (arr ++ [⟨vk, vn⟩]) := by simp [VlL]
  rw [hs3] at s3
  have hB3 := hB1.setArr u3 b3 s3
  have htp3 := b3.get _ _ (fun e => by rw [hB1.tpo] at e; simp at e) hB1.tpc
  have hl3 : slLen v3 = some (arr.length + 1) := by rw [s3.len, vlL_len, List.length_append]; rfl
  have e1 : IntKind.i64.wrap (((arr.length + 1 : Nat) : Int) + 1) = ((arr.length + 1 : Nat) : Int) + 1 := wrap64 (by omega) (by omega)
  have hw4 : (M3.put tp (.cells [v3, vp, vg] false)).wf := w3.put htp3 _
  have hown3 : ∀ p, own p = none → own3 p = none ∨ M.next.num ≤ p.num := fun p hp => by
    rcases u3 p with e | ⟨_, _, e, _⟩
    · left; rw [e, hp]
    · right; exact Nat.le_trans b1.next e
  have wid : ∀ (own' : Own) (A B : Mem), (∀ p, own p = none → own' p = none ∨ M.next.num ≤ p.num) → But (fun p => own' p ≠ none) A B → But (fun p => own p ≠ none ∨ M.next.num ≤ p.num) A B := fun own' A B h hb => hb.mono fun p hp => by
    cases ho : own p with
    | none => exact .inr ((h p ho).resolve_left hp)
    | some t => exact .inl (by simp)
  have bb4 : But (fun p => own p ≠ none ∨ M.next.num ≤ p.num) M (M3.put tp (.cells [v3, vp, vg] false)) :=
    ((b1.any _).trans (b3.mono fun p e => .inl (by rw [e]; simp))).trans (But.put (p := tp) _ (.inl (by rw [hB.tpo]; simp)) _)
  simp only [go_sem, reduceCtorEq, Nat.reduceEqDiff, Nat.reduceAdd, Nat.reduceMul, Nat.reduceLeDiff, Nat.reduceSub, Nat.reduceLT, Nat.reduceBEq, Nat.reduceBNe, Int.reduceBEq, Int.reduceBNe, Int.reduceLT, Int.reduceLE, Int.reduceAdd, Int.reduceEq, Int.reduceNe, beq_self_eq_true, bne_self_eq_false, decide_true, decide_false, Bool.not_true, Bool.not_false, Bool.false_eq_true, false_and, and_false, not_true_eq_false, not_false_eq_true, cf151, VlA, htp, ne1, p3', hc3, htp3, hl3, e1]
  refine (integer_spec h123 _).use ?_
  rintro r M5 hw5 ⟨rfl, b5⟩
  have hB5 := hB3.keep (b5.any _)
  simp only [go_sem, reduceCtorEq, Nat.reduceEqDiff, Nat.reduceAdd, Nat.reduceMul, Nat.reduceLeDiff, Nat.reduceSub, Nat.reduceLT, Nat.reduceBEq, Nat.reduceBNe, Int.reduceBEq, Int.reduceBNe, Int.reduceLT, Int.reduceLE, Int.reduceAdd, Int.reduceEq, Int.reduceNe, beq_self_eq_true, bne_self_eq_false, decide_true, decide_false, Bool.not_true, Bool.not_false, Bool.false_eq_true, false_and, and_false, not_true_eq_false, not_false_eq_true]
  refine (find_spec (l := prs) (k := ⟨3, ((arr.length + 1 : Nat) : Int) + 1⟩) h148 (by omega) hB5.tpc hB5.prs_.rows).use ?_
  rintro r M6 hw6 ⟨rfl, b6⟩
  have hB6 := hB5.keep (b6.any _)
  simp only [go_sem, reduceCtorEq, Nat.reduceEqDiff, Nat.reduceAdd, Nat.reduceMul, Nat.reduceLeDiff, Nat.reduceSub, Nat.reduceLT, Nat.reduceBEq, Nat.reduceBNe, Int.reduceBEq, Int.reduceBNe, Int.reduceLT, Int.reduceLE, Int.reduceAdd, Int.reduceEq, Int.reduceNe, beq_self_eq_true, bne_self_eq_false, decide_true, decide_false, Bool.not_true, Bool.not_false, Bool.false_eq_true, false_and, and_false, not_true_eq_false, not_false_eq_true]
  refine loop_wp (I := fun n fr M' => M'.wf ∧ (∃ own' va' vp' arr' prs', DtB M' own' tp va' vp' vg arr' prs' ∧ prs'.length = n ∧ arr'.length + prs'.length ≤ 2 ^ 19 + 1 ∧ growF n arr' prs' = growF prs.length (arr ++ [⟨vk, vn⟩]) prs ∧ (∀ p, own p = none → own' p = none ∨ M.next.num ≤ p.num) ∧ fr.get (.o (.i .h)) = some (.int 3 (posI prs' ⟨3, (arr'.length : Int) + 1⟩))) ∧ But (fun p => own p ≠ none ∨ M.next.num ≤ p.num) M M' ∧ fr.get (.o .h) = some (.ptr tp 0)) (n := prs.length) ?_ ?_
  · refine ⟨hw6, ⟨own3, v3, vp, _, prs, hB6, rfl, by simp only [List.length_append, List.length_cons, List.length_nil]; omega, rfl, hown3, ?_⟩, bb4.trans ((b5.trans b6).any _), rfl⟩
    simp only [List.length_append, List.length_cons, List.length_nil]
    rfl
  · rintro n fr M' ⟨i1, ⟨own', va', vp', arr', prs', i2, i3, i4, i5, i6, f2⟩, i7, f1⟩
    cases hpos : posP prs' ⟨3, (arr'.length : Int) + 1⟩ with
    | none =>
      have hpi : posI prs' ⟨3, (arr'.length : Int) + 1⟩ = -1 := by simp only [posI, hpos]
      have hg : growF n arr' prs' = (arr', prs') := by cases n <;> simp [growF, hpos]
      have g : decide ((0 : Int) ≤ -1) = false := rfl
      rw [hpi] at f2
      simp only [go_sem, reduceCtorEq, Nat.reduceEqDiff, Nat.reduceAdd, Nat.reduceMul, Nat.reduceLeDiff, Nat.reduceSub, Nat.reduceLT, Nat.reduceBEq, Nat.reduceBNe, Int.reduceBEq, Int.reduceBNe, Int.reduceLT, Int.reduceLE, Int.reduceAdd, Int.reduceEq, Int.reduceNe, beq_self_eq_true, bne_self_eq_false, decide_true, decide_false, Bool.not_true, Bool.not_false, Bool.false_eq_true, false_and, and_false, not_true_eq_false, not_false_eq_true, f1, f2, g]
      rw [← i5, hg]
      exact ⟨⟨own', va', vp', i2, i6⟩, But.fresh hw i7⟩
    | some j =>
      have hj := posP_lt hpos
      cases n with
      | zero => omega
      | succ m =>
        have hpi : posI prs' ⟨3, (arr'.length : Int) + 1⟩ = ((2 * j : Nat) : Int) := by simp only [posI, hpos]
        rw [hpi] at f2
        have g : decide ((0 : Int) ≤ ((2 * j : Nat) : Int)) = true := by simp only [decide_eq_true_eq]; omega
        have ht := i2.tpc
        have hfl : (flatP prs').length = 2 * prs'.length := flatP_len _
        have l2 : slLen vp' = some (2 * prs'.length) := by rw [i2.prs_.len, flatV_len]
        obtain ⟨q, qo, a1, a2⟩ := vl_at i2.prs_.rows (i := 2 * j + 1) (by omega)
        rw [hfl] at a1
        have k2 := flatP_val prs' hj
        rw [List.getElem?_eq_getElem (by omega)] at k2
        rw [Option.some.inj k2] at a2
        have hgv : growF (m + 1) arr' prs' = growF m (arr' ++ [prs'[j].2]) (takeP prs' j) := by simp only [growF, hpos, List.getElem?_eq_getElem hj, Option.map_some, Option.getD_some]
        generalize prs'[j].2 = y at *
        obtain ⟨yk, yn⟩ := y
        have g3 : 2 * j + 1 < 2 * prs'.length := by omega
        have e7 : IntKind.i64.wrap (((2 * j : Nat) : Int) + 1) = ((2 * j + 1 : Nat) : Int) := by rw [wrap64 (by omega) (by omega)]; omega
        obtain ⟨v7, M7, own7, p7, s7, u7, b7, w7⟩ := i2.arr_.push_ i1 i2.inn (n := 1) (c := 1) (X := [VlR ⟨yk, yn⟩]) (x := [.int 3 yk, .int 3 yn]) rfl rfl (by simp [VlR, isCell]) (by omega) (by rw [vlL_len]; simp only [most, List.length_cons, List.length_nil]; omega)
        have p7' : appO (({ next := M'.next.succ, get := M'.get } : Mem).put M'.next (.cells [.int 3 yk, .int 3 yn] false)) 2 va' (.slice M'.next 0 1 1) = some (v7, M7) := p7
        have hs7 : VlL arr' ++ [VlR ⟨yk, yn⟩] = VlL (arr' ++ [⟨yk, yn⟩]) := by simp [VlL]
        rw [hs7] at s7
        have hc7 := s7.cell
        have hB7 := i2.setArr u7 b7 s7
        have ht7 := b7.get _ _ (fun e => by rw [i2.tpo] at e; simp at e) ht
        have hn7 := i7.next
        have hown7 : ∀ p, own p = none → own7 p = none ∨ M.next.num ≤ p.num := fun p hp => by
          rcases i6 p hp with e | e
          · rcases u7 p with e' | ⟨_, _, e', _⟩
            · left; rw [e', e]
            · right; exact Nat.le_trans hn7 e'
          · exact .inr e
        simp only [go_sem, reduceCtorEq, Nat.reduceEqDiff, Nat.reduceAdd, Nat.reduceMul, Nat.reduceLeDiff, Nat.reduceSub, Nat.reduceLT, Nat.reduceBEq, Nat.reduceBNe, Int.reduceBEq, Int.reduceBNe, Int.reduceLT, Int.reduceLE, Int.reduceAdd, Int.reduceEq, Int.reduceNe, beq_self_eq_true, bne_self_eq_false, decide_true, decide_false, Bool.not_true, Bool.not_false, Bool.false_eq_true, false_and, and_false, not_true_eq_false, not_false_eq_true, f1, f2, g, ht, l2, e7, a1, a2, g3, p7, p7', hc7, ht7]
        refine (take_spec h150 hB7 hj (by omega)).use ?_
        rintro r M8 hw8 ⟨rfl, ⟨vp8, hB8⟩, b8⟩
        have ht8 := hB8.tpc
        have l8 : slLen v7 = some (arr'.length + 1) := by rw [s7.len, vlL_len, List.length_append]; rfl
        have e8 : IntKind.i64.wrap (((arr'.length + 1 : Nat) : Int) + 1) = ((arr'.length + 1 : Nat) : Int) + 1 := wrap64 (by omega) (by omega)
        simp only [go_sem, reduceCtorEq, Nat.reduceEqDiff, Nat.reduceAdd, Nat.reduceMul, Nat.reduceLeDiff, Nat.reduceSub, Nat.reduceLT, Nat.reduceBEq, Nat.reduceBNe, Int.reduceBEq, Int.reduceBNe, Int.reduceLT, Int.reduceLE, Int.reduceAdd, Int.reduceEq, Int.reduceNe, beq_self_eq_true, bne_self_eq_false, decide_true, decide_false, Bool.not_true, Bool.not_false, Bool.false_eq_true, false_and, and_false, not_true_eq_false, not_false_eq_true, f1, ht8, l8, e8]
        refine (integer_spec h123 _).use ?_
        rintro r M9 hw9 ⟨rfl, b9⟩
        have hB9 := hB8.keep (b9.any _)
        simp only [go_sem, reduceCtorEq, Nat.reduceEqDiff, Nat.reduceAdd, Nat.reduceMul, Nat.reduceLeDiff, Nat.reduceSub, Nat.reduceLT, Nat.reduceBEq, Nat.reduceBNe, Int.reduceBEq, Int.reduceBNe, Int.reduceLT, Int.reduceLE, Int.reduceAdd, Int.reduceEq, Int.reduceNe, beq_self_eq_true, bne_self_eq_false, decide_true, decide_false, Bool.not_true, Bool.not_false, Bool.false_eq_true, false_and, and_false, not_true_eq_false, not_false_eq_true, f1]
        refine (find_spec (l := takeP prs' j) (k := ⟨3, ((arr'.length + 1 : Nat) : Int) + 1⟩) h148 (by rw [takeP_len hj]; omega) hB9.tpc hB9.prs_.rows).use ?_
        rintro r M10 hw10 ⟨rfl, b10⟩
        have hB10 := hB9.keep (b10.any _)
        simp only [go_sem, reduceCtorEq, Nat.reduceEqDiff, Nat.reduceAdd, Nat.reduceMul, Nat.reduceLeDiff, Nat.reduceSub, Nat.reduceLT, Nat.reduceBEq, Nat.reduceBNe, Int.reduceBEq, Int.reduceBNe, Int.reduceLT, Int.reduceLE, Int.reduceAdd, Int.reduceEq, Int.reduceNe, beq_self_eq_true, bne_self_eq_false, decide_true, decide_false, Bool.not_true, Bool.not_false, Bool.false_eq_true, false_and, and_false, not_true_eq_false, not_false_eq_true, f1]
        have bb7 : But (fun p => own p ≠ none ∨ M.next.num ≤ p.num) M' M10 :=
          (((wid own' _ _ i6 (b7.mono fun p e => by rw [e]; simp)).trans (But.put (p := tp) _ (.inl (by rw [hB.tpo]; simp)) _)).trans (wid own7 _ _ hown7 b8)).trans ((b9.trans b10).any _)
        refine ⟨m, by omega, hw10, ⟨own7, v7, vp8, arr' ++ [⟨yk, yn⟩], takeP prs' j, hB10, by rw [takeP_len hj]; omega, by rw [takeP_len hj, List.length_append]; show _ + 1 + _ ≤ _; omega, by rw [← hgv]; exact i5, hown7, ?_⟩, i7.trans bb7, by simp [Tr.get_set, f1]⟩
        rw [List.length_append, Tr.get_set]
        rfl
end Go.Proofs.Ythpnhdopheofcaa

end
section
namespace Go.Proofs.Ythpnhdopheofcaa
open Go.Dx
variable {tbl : Nat → Option CFunc}

/-- What dict's put makes of a table. -/
def putT (arr : List Vl) (prs : List (Vl × Vl)) (k v : Vl) : List Vl × List (Vl × Vl) :=
  if placedV k arr.length = true then (layV arr (k.n.toNat - 1) v, prs)
  else match posP prs k with
    | some j => if nullV v = true then (arr, takeP prs j) else (arr, prs.set j (((prs[j]?).map (·.1)).getD ⟨1, 0⟩, v))
    | none => if nullV v = true then (arr, prs) else if placedV k ((arr.length : Int) + 1) = true then growF prs.length (arr ++ [v]) prs else (arr, prs ++ [(k, v)])

def blkBody : CCode → CCode
  | .block _ b => b
  | c => c
def condA : CCode → CCode
  | .cond _ a _ => a
  | c => c
def condB : CCode → CCode
  | .cond _ _ b => b
  | c => c

theorem DtB.rowPrs {M : Mem} {own : Own} {tp p : Pos} {b : MB} {va vp vg : AV} {arr : List Vl} {prs prs' : List (Vl × Vl)} (h : DtB M own tp va vp vg arr prs) (hq : own p = some (32, 0)) (s : SlO (M.put p b) own (32, 0) vp 2 (flatV prs')) : DtB (M.put p b) own tp va vp vg arr prs' := by
  have kp : ∀ q c t, own q = some t → t ≠ (32, 0) → M.get q = some c → (M.put p b).get q = some c := fun q c t ho ht hp => by
    show (if q = p then _ else M.get q) = _
    rw [if_neg fun e => by rw [e, hq] at ho; cases ho; exact ht rfl]
    exact hp
  exact ⟨Own.in.mono h.inn (Nat.le_refl _), h.tpo, kp _ _ _ h.tpo (by simp) h.tpc, h.arr_.keep (fun q c ho hp => kp q c _ ho (by simp) hp) fun _ h => h, s, h.gon.keep (fun q c ho hp => kp q c _ ho (by simp) hp) fun _ h => h⟩

theorem flatV_set (l : List (Vl × Vl)) {j : Nat} (hj : j < l.length) (v : Vl) : (flatV l).set (2 * j + 1) [.int 3 v.k, .int 3 v.n] = flatV (l.set j (l[j].1, v)) := by
  induction l generalizing j with
  | nil => simp at hj
  | cons x l ih =>
    cases j with
    | zero => rfl
    | succ j =>
      rw [flatV_cons, show 2 * (j + 1) + 1 = (2 * j + 1 + 1) + 1 by omega, List.set_cons_succ, List.set_cons_succ, ih (by simpa using hj)]
      rfl

/-- What a put leaves. -/
def PutQ (M : Mem) (own : Own) (tp : Pos) (vg : AV) (X : List Vl × List (Vl × Vl)) (r : CR) (M' : Mem) : Prop :=
  r = .ret (.tuple .nil) ∧ (∃ own' va' vp', DtB M' own' tp va' vp' vg X.1 X.2 ∧ ∀ p, own p = none → own' p = none ∨ M.next.num ≤ p.num) ∧ But (fun p => own p ≠ none) M M'

structure PutT (tbl : Nat → Option CFunc) : Prop extends DcT tbl where
  h77 : tbl 77 = some cf77
  h123 : tbl 123 = some cf123
  h126 : tbl 126 = some cf126
  h147 : tbl 147 = some cf147
  h148 : tbl 148 = some cf148
  h149 : tbl 149 = some cf149
  h150 : tbl 150 = some cf150
  h151 : tbl 151 = some cf151

theorem put_a (D : PutT tbl) {M : Mem} {own : Own} {tp pk pv : Pos} {va vp vg : AV} {arr : List Vl} {prs : List (Vl × Vl)} {k v : Vl} {fr : Tr AV} {j : Nat} {M0 : Mem} (b0 : But (fun _ => False) M0 M) (hw : M.wf) (hB : DtB M own tp va vp vg arr prs) (hl : arr.length + prs.length ≤ 2 ^ 19)
    (hr : ∀ x ∈ prs, refV x.1 = false ∧ refV x.2 = false) (hkr : refV k = false) (f1 : fr.get (.o .h) = some (.ptr tp 0)) (f2 : fr.get (.o (.i .h)) = some (.ptr pk 0)) (f3 : fr.get (.i (.i .h)) = some (.ptr pv 0)) (f4 : fr.get (.o (.o (.o .h))) = some (.int 3 ((2 * j : Nat) : Int)))
    (xk : M.get pk = some (.cells [.int 3 k.k, .int 3 k.n] false)) (xv : M.get pv = some (.cells [.int 3 v.k, .int 3 v.n] false)) (ok : own pk = none) (ov : own pv = none) (hj : j < prs.length) (hv : nullV v = true) :
    CCode.wp tbl (seqTail 3 cf126.body) fr M (finW cf126.results (PutQ M0 own tp vg (arr, takeP prs j))) := by
  obtain ⟨vk, vn⟩ := v
  obtain ⟨kk, kn⟩ := k
  have g : decide ((0 : Int) ≤ ((2 * j : Nat) : Int)) = true := by simp only [decide_eq_true_eq]; omega
  simp only [go_sem, reduceCtorEq, Nat.reduceEqDiff, Nat.reduceAdd, Nat.reduceMul, Nat.reduceLeDiff, Nat.reduceSub, Nat.reduceLT, Nat.reduceBEq, Nat.reduceBNe, Int.reduceBEq, Int.reduceBNe, Int.reduceLT, Int.reduceLE, Int.reduceAdd, Int.reduceEq, Int.reduceNe, beq_self_eq_true, bne_self_eq_false, decide_true, decide_false, Bool.not_true, Bool.not_false, Bool.false_eq_true, false_and, and_false, not_true_eq_false, not_false_eq_true, cf126, seqTail, f1, f2, f3, f4, g, xv]
  refine (null_spec' D.h129 ⟨vk, vn⟩).use ?_
  rintro r M1 hw1 ⟨rfl, b1⟩
  rw [hv]
  have hB1 := hB.keep (b1.any _)
  have ht1 := hB1.tpc
  have xk1 := b1.get _ _ id xk
  have l2 : slLen vp = some (2 * prs.length) := by rw [hB.prs_.len, flatV_len]
  have hfl : (flatP prs).length = 2 * prs.length := flatP_len _
  have e7 : IntKind.i64.wrap (((2 * j : Nat) : Int) + 1) = ((2 * j + 1 : Nat) : Int) := by rw [wrap64 (by omega) (by omega)]; omega
  obtain ⟨q, qo, a1, a2⟩ := vl_at hB1.prs_.rows (i := 2 * j) (by omega)
  obtain ⟨q', qo', a1', a3⟩ := vl_at hB1.prs_.rows (i := 2 * j + 1) (by omega)
  rw [a1] at a1'
  cases a1'
  rw [hfl] at a1
  have k1 := flatP_key prs hj
  rw [List.getElem?_eq_getElem (by omega)] at k1
  rw [Option.some.inj k1] at a2
  have k2 := flatP_val prs hj
  rw [List.getElem?_eq_getElem (by omega)] at k2
  rw [Option.some.inj k2] at a3
  have hrr := hr _ (List.getElem_mem hj)
  generalize prs[j] = x at *
  obtain ⟨⟨yk, yn⟩, ⟨zk, zn⟩⟩ := x
  have g3 : 2 * j + 1 < 2 * prs.length := by omega
  have g4 : 2 * j < 2 * prs.length := by omega
  simp only [go_sem, reduceCtorEq, Nat.reduceEqDiff, Nat.reduceAdd, Nat.reduceMul, Nat.reduceLeDiff, Nat.reduceSub, Nat.reduceLT, Nat.reduceBEq, Nat.reduceBNe, Int.reduceBEq, Int.reduceBNe, Int.reduceLT, Int.reduceLE, Int.reduceAdd, Int.reduceEq, Int.reduceNe, beq_self_eq_true, bne_self_eq_false, decide_true, decide_false, Bool.not_true, Bool.not_false, Bool.false_eq_true, false_and, and_false, not_true_eq_false, not_false_eq_true, f1, f2, f4, ht1, l2, e7, a1, a2, a3, g3, g4, xk1]
  have b2 := But.new (S := fun _ => False) hw1 (.cells [.int 3 zk, .int 3 zn, .int 3 yk, .int 3 yn, .int 3 kk, .int 3 kn] false)
  have hs2 : SlIs (M1.new (.cells [.int 3 zk, .int 3 zn, .int 3 yk, .int 3 yn, .int 3 kk, .int 3 kn] false)) (.slice M1.next 0 3 3) 2 (VlL [⟨zk, zn⟩, ⟨yk, yn⟩, ⟨kk, kn⟩]) := SlIs.made (X := VlL [⟨zk, zn⟩, ⟨yk, yn⟩, ⟨kk, kn⟩]) (x := [.int 3 zk, .int 3 zn, .int 3 yk, .int 3 yn, .int 3 kk, .int 3 kn]) (op := false) (by simp [Mem.new]) (by simp [VlL, VlR]) (by intro y hy; simp [VlL, VlR] at hy; rcases hy with rfl | rfl | rfl <;> rfl) rfl
  refine (leave_none D.h149 D.h77 D.h117 D.h143 hs2 (by show (3 : Nat) < 2 ^ 62; decide) (by intro w hw'; simp only [List.mem_cons, List.not_mem_nil, or_false] at hw'; rcases hw' with rfl | rfl | rfl <;> first | exact hrr.2 | exact hrr.1 | exact hkr)).use ?_
  rintro r M2 hw2 ⟨rfl, b3⟩
  have hB2 := hB1.keep ((b2.trans b3).any _)
  simp only [go_sem, reduceCtorEq, Nat.reduceEqDiff, Nat.reduceAdd, Nat.reduceMul, Nat.reduceLeDiff, Nat.reduceSub, Nat.reduceLT, Nat.reduceBEq, Nat.reduceBNe, Int.reduceBEq, Int.reduceBNe, Int.reduceLT, Int.reduceLE, Int.reduceAdd, Int.reduceEq, Int.reduceNe, beq_self_eq_true, bne_self_eq_false, decide_true, decide_false, Bool.not_true, Bool.not_false, Bool.false_eq_true, false_and, and_false, not_true_eq_false, not_false_eq_true, f1, f4]
  refine (take_spec D.h150 hB2 hj (by omega)).use ?_
  rintro r M3 hw3 ⟨rfl, ⟨vp3, hB3⟩, b4⟩
  simp only [go_sem, reduceCtorEq, Nat.reduceEqDiff, Nat.reduceAdd, Nat.reduceMul, Nat.reduceLeDiff, Nat.reduceSub, Nat.reduceLT, Nat.reduceBEq, Nat.reduceBNe, Int.reduceBEq, Int.reduceBNe, Int.reduceLT, Int.reduceLE, Int.reduceAdd, Int.reduceEq, Int.reduceNe, beq_self_eq_true, bne_self_eq_false, decide_true, decide_false, Bool.not_true, Bool.not_false, Bool.false_eq_true, false_and, and_false, not_true_eq_false, not_false_eq_true]
  exact ⟨rfl, ⟨own, va, vp3, hB3, fun p hp => .inl hp⟩, ((b0.trans (b1.trans (b2.trans b3))).any _).trans b4⟩

theorem put_b (D : PutT tbl) {M : Mem} {own : Own} {tp pk pv : Pos} {va vp vg : AV} {arr : List Vl} {prs : List (Vl × Vl)} {k v : Vl} {fr : Tr AV} {j : Nat} {M0 : Mem} (b0 : But (fun _ => False) M0 M) (hw : M.wf) (hB : DtB M own tp va vp vg arr prs) (hl : arr.length + prs.length ≤ 2 ^ 19)
    (hr : ∀ x ∈ prs, refV x.1 = false ∧ refV x.2 = false) (hkr : refV k = false) (f1 : fr.get (.o .h) = some (.ptr tp 0)) (f2 : fr.get (.o (.i .h)) = some (.ptr pk 0)) (f3 : fr.get (.i (.i .h)) = some (.ptr pv 0)) (f4 : fr.get (.o (.o (.o .h))) = some (.int 3 ((2 * j : Nat) : Int)))
    (xk : M.get pk = some (.cells [.int 3 k.k, .int 3 k.n] false)) (xv : M.get pv = some (.cells [.int 3 v.k, .int 3 v.n] false)) (ok : own pk = none) (ov : own pv = none) (hj : j < prs.length) (hv : nullV v = false) :
    CCode.wp tbl (seqTail 3 cf126.body) fr M (finW cf126.results (PutQ M0 own tp vg (arr, prs.set j (prs[j].1, v)))) := by
  obtain ⟨vk, vn⟩ := v
  obtain ⟨kk, kn⟩ := k
  have g : decide ((0 : Int) ≤ ((2 * j : Nat) : Int)) = true := by simp only [decide_eq_true_eq]; omega
  simp only [go_sem, reduceCtorEq, Nat.reduceEqDiff, Nat.reduceAdd, Nat.reduceMul, Nat.reduceLeDiff, Nat.reduceSub, Nat.reduceLT, Nat.reduceBEq, Nat.reduceBNe, Int.reduceBEq, Int.reduceBNe, Int.reduceLT, Int.reduceLE, Int.reduceAdd, Int.reduceEq, Int.reduceNe, beq_self_eq_true, bne_self_eq_false, decide_true, decide_false, Bool.not_true, Bool.not_false, Bool.false_eq_true, false_and, and_false, not_true_eq_false, not_false_eq_true, cf126, seqTail, f1, f2, f3, f4, g, xv]
  refine (null_spec' D.h129 ⟨vk, vn⟩).use ?_
  rintro r M1 hw1 ⟨rfl, b1⟩
  rw [hv]
  have hB1 := hB.keep (b1.any _)
  have ht1 := hB1.tpc
  have xk1 := b1.get _ _ id xk
  have xv1 := b1.get _ _ id xv
  have l2 : slLen vp = some (2 * prs.length) := by rw [hB.prs_.len, flatV_len]
  have hfl : (flatP prs).length = 2 * prs.length := flatP_len _
  have e7 : IntKind.i64.wrap (((2 * j : Nat) : Int) + 1) = ((2 * j + 1 : Nat) : Int) := by rw [wrap64 (by omega) (by omega)]; omega
  obtain ⟨q, qo, a1, a2⟩ := vl_at hB1.prs_.rows (i := 2 * j + 1) (by omega)
  rw [hfl] at a1
  have k2 := flatP_val prs hj
  rw [List.getElem?_eq_getElem (by omega)] at k2
  rw [Option.some.inj k2] at a2
  have hrr := hr _ (List.getElem_mem hj)
  have hset := flatV_set prs hj ⟨vk, vn⟩
  generalize prs[j] = x at *
  obtain ⟨⟨yk, yn⟩, ⟨zk, zn⟩⟩ := x
  have g3 : 2 * j + 1 < 2 * prs.length := by omega
  simp only [go_sem, reduceCtorEq, Nat.reduceEqDiff, Nat.reduceAdd, Nat.reduceMul, Nat.reduceLeDiff, Nat.reduceSub, Nat.reduceLT, Nat.reduceBEq, Nat.reduceBNe, Int.reduceBEq, Int.reduceBNe, Int.reduceLT, Int.reduceLE, Int.reduceAdd, Int.reduceEq, Int.reduceNe, beq_self_eq_true, bne_self_eq_false, decide_true, decide_false, Bool.not_true, Bool.not_false, Bool.false_eq_true, false_and, and_false, not_true_eq_false, not_false_eq_true, f1, f2, f4, g, ht1, l2, e7, a1, a2, g3, xk1]
  have b2 := But.new (S := fun _ => False) hw1 (.cells [.int 3 zk, .int 3 zn, .int 3 kk, .int 3 kn] false)
  have hs2 : SlIs (M1.new (.cells [.int 3 zk, .int 3 zn, .int 3 kk, .int 3 kn] false)) (.slice M1.next 0 2 2) 2 (VlL [⟨zk, zn⟩, ⟨kk, kn⟩]) := SlIs.made (X := VlL [⟨zk, zn⟩, ⟨kk, kn⟩]) (x := [.int 3 zk, .int 3 zn, .int 3 kk, .int 3 kn]) (op := false) (by simp [Mem.new]) (by simp [VlL, VlR]) (by intro y hy; simp [VlL, VlR] at hy; rcases hy with rfl | rfl <;> rfl) rfl
  refine (leave_none D.h149 D.h77 D.h117 D.h143 hs2 (by show (2 : Nat) < 2 ^ 62; decide) (by intro w hw'; simp only [List.mem_cons, List.not_mem_nil, or_false] at hw'; rcases hw' with rfl | rfl <;> first | exact hrr.2 | exact hkr)).use ?_
  rintro r M2 hw2 ⟨rfl, b3⟩
  have hB2 := hB1.keep ((b2.trans b3).any _)
  have ht2 := hB2.tpc
  have xv2 := (b2.trans b3).get _ _ id xv1
  obtain ⟨b, st, hq, ⟨b00, hb0⟩, s4⟩ := hB2.prs_.set_ (i := 2 * j + 1) (by rw [flatV_len]; exact g3) (x := [.int 3 vk, .int 3 vn]) rfl rfl a1
  rw [Mem.store_eq] at st
  rw [hset] at s4
  have hB3 := hB2.rowPrs hq s4
  have w3 : (M2.put q b).wf := hw2.put hb0 b
  simp only [go_sem, reduceCtorEq, Nat.reduceEqDiff, Nat.reduceAdd, Nat.reduceMul, Nat.reduceLeDiff, Nat.reduceSub, Nat.reduceLT, Nat.reduceBEq, Nat.reduceBNe, Int.reduceBEq, Int.reduceBNe, Int.reduceLT, Int.reduceLE, Int.reduceAdd, Int.reduceEq, Int.reduceNe, beq_self_eq_true, bne_self_eq_false, decide_true, decide_false, Bool.not_true, Bool.not_false, Bool.false_eq_true, false_and, and_false, not_true_eq_false, not_false_eq_true, f1, f3, f4, ht2, l2, e7, a1, g3, xv2, st]
  exact ⟨rfl, ⟨own, va, vp, hB3, fun p hp => .inl hp⟩, ((b0.trans (b1.trans (b2.trans b3))).any _).trans (But.put (p := q) _ (by rw [hq]; simp) _)⟩

theorem put_c (D : PutT tbl) {M : Mem} {own : Own} {tp pk pv : Pos} {va vp vg : AV} {arr : List Vl} {prs : List (Vl × Vl)} {k v : Vl} {fr : Tr AV} {M0 : Mem} (b0 : But (fun _ => False) M0 M) (hw : M.wf) (hB : DtB M own tp va vp vg arr prs) (hl : arr.length + prs.length ≤ 2 ^ 19)
    (hkr : refV k = false) (f1 : fr.get (.o .h) = some (.ptr tp 0)) (f2 : fr.get (.o (.i .h)) = some (.ptr pk 0)) (f3 : fr.get (.i (.i .h)) = some (.ptr pv 0)) (f4 : fr.get (.o (.o (.o .h))) = some (.int 3 (-1)))
    (xk : M.get pk = some (.cells [.int 3 k.k, .int 3 k.n] false)) (xv : M.get pv = some (.cells [.int 3 v.k, .int 3 v.n] false)) (ok : own pk = none) (ov : own pv = none) :
    CCode.wp tbl (seqTail 3 cf126.body) fr M (finW cf126.results (PutQ M0 own tp vg (if nullV v = true then (arr, prs) else if placedV k ((arr.length : Int) + 1) = true then growF prs.length (arr ++ [v]) prs else (arr, prs ++ [(k, v)])))) := by
  obtain ⟨vk, vn⟩ := v
  obtain ⟨kk, kn⟩ := k
  have g : decide ((0 : Int) ≤ -1) = false := rfl
  simp only [go_sem, reduceCtorEq, Nat.reduceEqDiff, Nat.reduceAdd, Nat.reduceMul, Nat.reduceLeDiff, Nat.reduceSub, Nat.reduceLT, Nat.reduceBEq, Nat.reduceBNe, Int.reduceBEq, Int.reduceBNe, Int.reduceLT, Int.reduceLE, Int.reduceAdd, Int.reduceEq, Int.reduceNe, beq_self_eq_true, bne_self_eq_false, decide_true, decide_false, Bool.not_true, Bool.not_false, Bool.false_eq_true, false_and, and_false, not_true_eq_false, not_false_eq_true, cf126, seqTail, f1, f2, f3, f4, g, xv]
  refine (null_spec' D.h129 ⟨vk, vn⟩).use ?_
  rintro r M1 hw1 ⟨rfl, b1⟩
  have hB1 := hB.keep (b1.any _)
  have ht1 := hB1.tpc
  have xk1 := b1.get _ _ id xk
  have xv1 := b1.get _ _ id xv
  have e2 : IntKind.i64.wrap ((arr.length : Int) + 1) = (arr.length : Int) + 1 := wrap64 (by omega) (by omega)
  have l1 : slLen va = some arr.length := by rw [hB.arr_.len, vlL_len]
  cases hv : nullV ⟨vk, vn⟩ with
  | true =>
    simp only [go_sem, reduceCtorEq, Nat.reduceEqDiff, Nat.reduceAdd, Nat.reduceMul, Nat.reduceLeDiff, Nat.reduceSub, Nat.reduceLT, Nat.reduceBEq, Nat.reduceBNe, Int.reduceBEq, Int.reduceBNe, Int.reduceLT, Int.reduceLE, Int.reduceAdd, Int.reduceEq, Int.reduceNe, beq_self_eq_true, bne_self_eq_false, decide_true, decide_false, Bool.not_true, Bool.not_false, Bool.false_eq_true, false_and, and_false, not_true_eq_false, not_false_eq_true, f1, f2, xk1]
    have b2 := But.new (S := fun _ => False) hw1 (.cells [.int 3 kk, .int 3 kn] false)
    have hs2 : SlIs (M1.new (.cells [.int 3 kk, .int 3 kn] false)) (.slice M1.next 0 1 1) 2 (VlL [⟨kk, kn⟩]) := SlIs.made (X := VlL [⟨kk, kn⟩]) (x := [.int 3 kk, .int 3 kn]) (op := false) (by simp [Mem.new]) (by simp [VlL, VlR]) (by intro y hy; simp [VlL, VlR] at hy; rcases hy with rfl; rfl) rfl
    refine (leave_none D.h149 D.h77 D.h117 D.h143 hs2 (by show (1 : Nat) < 2 ^ 62; decide) (by intro w hw'; simp only [List.mem_cons, List.not_mem_nil, or_false] at hw'; rcases hw' with rfl; exact hkr)).use ?_
    rintro r M2 hw2 ⟨rfl, b3⟩
    have hB2 := hB1.keep ((b2.trans b3).any _)
    simp only [go_sem, reduceCtorEq, Nat.reduceEqDiff, Nat.reduceAdd, Nat.reduceMul, Nat.reduceLeDiff, Nat.reduceSub, Nat.reduceLT, Nat.reduceBEq, Nat.reduceBNe, Int.reduceBEq, Int.reduceBNe, Int.reduceLT, Int.reduceLE, Int.reduceAdd, Int.reduceEq, Int.reduceNe, beq_self_eq_true, bne_self_eq_false, decide_true, decide_false, Bool.not_true, Bool.not_false, Bool.false_eq_true, false_and, and_false, not_true_eq_false, not_false_eq_true]
    exact ⟨rfl, ⟨own, va, vp, hB2, fun p hp => .inl hp⟩, (b0.trans (b1.trans (b2.trans b3))).any _⟩
  | false =>
    simp only [go_sem, reduceCtorEq, Nat.reduceEqDiff, Nat.reduceAdd, Nat.reduceMul, Nat.reduceLeDiff, Nat.reduceSub, Nat.reduceLT, Nat.reduceBEq, Nat.reduceBNe, Int.reduceBEq, Int.reduceBNe, Int.reduceLT, Int.reduceLE, Int.reduceAdd, Int.reduceEq, Int.reduceNe, beq_self_eq_true, bne_self_eq_false, decide_true, decide_false, Bool.not_true, Bool.not_false, Bool.false_eq_true, false_and, and_false, not_true_eq_false, not_false_eq_true, f1, f2, xk1, ht1, l1, e2]
    refine (placed_spec D.h128 ⟨kk, kn⟩ _).use ?_
    rintro r M2 hw2 ⟨rfl, b2⟩
    have hB2 := hB1.keep (b2.any _)
    have ht2 := hB2.tpc
    have xk2 := b2.get _ _ id xk1
    have xv2 := b2.get _ _ id xv1
    have hn2 := (b0.trans (b1.trans b2)).next
    cases hp : placedV ⟨kk, kn⟩ ((arr.length : Int) + 1) with
    | true =>
      simp only [go_sem, reduceCtorEq, Nat.reduceEqDiff, Nat.reduceAdd, Nat.reduceMul, Nat.reduceLeDiff, Nat.reduceSub, Nat.reduceLT, Nat.reduceBEq, Nat.reduceBNe, Int.reduceBEq, Int.reduceBNe, Int.reduceLT, Int.reduceLE, Int.reduceAdd, Int.reduceEq, Int.reduceNe, beq_self_eq_true, bne_self_eq_false, decide_true, decide_false, Bool.not_true, Bool.not_false, Bool.false_eq_true, false_and, and_false, not_true_eq_false, not_false_eq_true, f1, f3, xv2]
      refine (grow_spec D.toDcT D.h151 D.h150 D.h148 D.h123 (v := ⟨vk, vn⟩) hB2 hl).use ?_
      rintro r M3 hw3 ⟨rfl, ⟨own3, va3, vp3, hB3, ho⟩, b3⟩
      simp only [go_sem, reduceCtorEq, Nat.reduceEqDiff, Nat.reduceAdd, Nat.reduceMul, Nat.reduceLeDiff, Nat.reduceSub, Nat.reduceLT, Nat.reduceBEq, Nat.reduceBNe, Int.reduceBEq, Int.reduceBNe, Int.reduceLT, Int.reduceLE, Int.reduceAdd, Int.reduceEq, Int.reduceNe, beq_self_eq_true, bne_self_eq_false, decide_true, decide_false, Bool.not_true, Bool.not_false, Bool.false_eq_true, false_and, and_false, not_true_eq_false, not_false_eq_true]
      exact ⟨rfl, ⟨own3, va3, vp3, hB3, fun p hp => (ho p hp).imp id fun e => Nat.le_trans hn2 e⟩, ((b0.trans (b1.trans b2)).any _).trans b3⟩
    | false =>
      obtain ⟨v3, M3, own3, p3, s3, u3, b3, w3⟩ := hB2.prs_.push_ hw2 hB2.inn (n := 2) (c := 2) (X := [VlR ⟨kk, kn⟩, VlR ⟨vk, vn⟩]) (x := [.int 3 kk, .int 3 kn, .int 3 vk, .int 3 vn]) rfl rfl (by intro y hy; simp only [List.mem_cons, List.not_mem_nil, or_false] at hy; rcases hy with rfl | rfl <;> exact ⟨rfl, rfl⟩) (by omega) (by rw [flatV_len]; simp only [most, List.length_cons, List.length_nil]; omega)
      have hs3 : flatV prs ++ [VlR ⟨kk, kn⟩, VlR ⟨vk, vn⟩] = flatV (prs ++ [(⟨kk, kn⟩, ⟨vk, vn⟩)]) := by rw [flatV_app]; rfl
      rw [hs3] at s3
      have hc3 := s3.cell
      have hB3 := hB2.setPrs u3 b3 s3
      have ht3 := b3.get _ _ (fun e => by rw [hB2.tpo] at e; simp at e) hB2.tpc
      simp only [go_sem, reduceCtorEq, Nat.reduceEqDiff, Nat.reduceAdd, Nat.reduceMul, Nat.reduceLeDiff, Nat.reduceSub, Nat.reduceLT, Nat.reduceBEq, Nat.reduceBNe, Int.reduceBEq, Int.reduceBNe, Int.reduceLT, Int.reduceLE, Int.reduceAdd, Int.reduceEq, Int.reduceNe, beq_self_eq_true, bne_self_eq_false, decide_true, decide_false, Bool.not_true, Bool.not_false, Bool.false_eq_true, false_and, and_false, not_true_eq_false, not_false_eq_true, f1, f2, f3, ht2, xk2, xv2, p3, hc3, ht3]
      refine ⟨rfl, ⟨own3, va, v3, hB3, fun p hp => ?_⟩, ((b0.trans (b1.trans b2)).any _).trans ((b3.mono fun p e => by rw [e]; simp).trans (But.put (p := tp) _ (by rw [hB.tpo]; simp) _))⟩
      rcases u3 p with e | ⟨_, _, e, _⟩
      · left; rw [e, hp]
      · right; exact Nat.le_trans hn2 e
theorem body126 : cf126.body = .seq (seqHead cf126.body) (.seq (seqHead (seqTail 1 cf126.body)) (.seq (seqHead (seqTail 2 cf126.body)) (seqTail 3 cf126.body))) := rfl

theorem put_spec (D : PutT tbl) {M : Mem} {own : Own} {tp : Pos} {va vp vg : AV} {arr : List Vl} {prs : List (Vl × Vl)} {k v : Vl} (hB : DtB M own tp va vp vg arr prs) (hl : arr.length + prs.length ≤ 2 ^ 19)
    (hra : ∀ x ∈ arr, refV x = false) (hr : ∀ x ∈ prs, refV x.1 = false ∧ refV x.2 = false) (hkr : refV k = false) :
    CallW tbl 126 (.cons (.ptr tp 0) (.cons (VlA k) (.cons (VlA v) .nil))) M (PutQ M own tp vg (putT arr prs k v)) := by
  refine CallW.wf fun hw => ?_
  obtain ⟨vk, vn⟩ := v
  obtain ⟨kk, kn⟩ := k
  refine CallW.intro D.h126 rfl (fr := .nod (.val (.val .leaf (VlA ⟨vk, vn⟩) .leaf) (.ptr tp 0) .leaf) (.val .leaf (VlA ⟨kk, kn⟩) .leaf)) rfl ?_
  have htp := hB.tpc
  have ne1 := hw.ne htp
  have l1 : slLen va = some arr.length := by rw [hB.arr_.len, vlL_len]
  have b1 := But.new (S := fun _ => False) hw (.cells [.int 3 kk, .int 3 kn] false)
  have w1 := hw.new (.cells [.int 3 kk, .int 3 kn] false)
  have b2 := But.new (S := fun _ => False) w1 (.cells [.int 3 vk, .int 3 vn] false)
  have w2 := w1.new (.cells [.int 3 vk, .int 3 vn] false)
  have x1 : (M.new (.cells [.int 3 kk, .int 3 kn] false)).get M.next = some (.cells [.int 3 kk, .int 3 kn] false) := by simp only [go_sem, reduceCtorEq, Nat.reduceEqDiff, Nat.reduceAdd, Nat.reduceMul, Nat.reduceLeDiff, Nat.reduceSub, Nat.reduceLT, Nat.reduceBEq, Nat.reduceBNe, Int.reduceBEq, Int.reduceBNe, Int.reduceLT, Int.reduceLE, Int.reduceAdd, Int.reduceEq, Int.reduceNe, beq_self_eq_true, bne_self_eq_false, decide_true, decide_false, Bool.not_true, Bool.not_false, Bool.false_eq_true, false_and, and_false, not_true_eq_false, not_false_eq_true]
  have xk := b2.get _ _ id x1
  have xv : ((M.new (.cells [.int 3 kk, .int 3 kn] false)).new (.cells [.int 3 vk, .int 3 vn] false)).get M.next.succ = some (.cells [.int 3 vk, .int 3 vn] false) := by simp only [go_sem, reduceCtorEq, Nat.reduceEqDiff, Nat.reduceAdd, Nat.reduceMul, Nat.reduceLeDiff, Nat.reduceSub, Nat.reduceLT, Nat.reduceBEq, Nat.reduceBNe, Int.reduceBEq, Int.reduceBNe, Int.reduceLT, Int.reduceLE, Int.reduceAdd, Int.reduceEq, Int.reduceNe, beq_self_eq_true, bne_self_eq_false, decide_true, decide_false, Bool.not_true, Bool.not_false, Bool.false_eq_true, false_and, and_false, not_true_eq_false, not_false_eq_true]
  have hB2 := hB.keep ((b1.trans b2).any _)
  have ok : own M.next = none := by
    cases h : own M.next with
    | none => rfl
    | some t => exact absurd (hB.inn _ (by rw [h]; simp)) (Nat.lt_irrefl _)
  have ov : own M.next.succ = none := by
    cases h : own M.next.succ with
    | none => rfl
    | some t => have := hB.inn _ (by rw [h]; simp); have e : M.next.succ.num = M.next.num + 1 := Pos.num_succ _; omega
  have hn2 := (b1.trans b2).next
  have tail := fun (fr : Tr AV) (M2 : Mem) (h : M2.wf) (b : But (fun _ => False) ((M.new (.cells [.int 3 kk, .int 3 kn] false)).new (.cells [.int 3 vk, .int 3 vn] false)) M2) (f1 : fr.get (.o .h) = some (.ptr tp 0)) (f2 : fr.get (.o (.i .h)) = some (.ptr M.next 0)) (f3 : fr.get (.i (.i .h)) = some (.ptr M.next.succ 0)) (f4 : fr.get (.o (.o (.o .h))) = some (.int 3 (posI prs ⟨kk, kn⟩))) (hp : placedV ⟨kk, kn⟩ arr.length = false) =>
    (show CCode.wp tbl (seqTail 3 cf126.body) fr M2 (finW cf126.results (PutQ M own tp vg (putT arr prs ⟨kk, kn⟩ ⟨vk, vn⟩))) from by
      simp only [putT, hp, Bool.false_eq_true, if_false]
      cases hpos : posP prs ⟨kk, kn⟩ with
      | none =>
        have hpi : posI prs ⟨kk, kn⟩ = -1 := by simp only [posI, hpos]
        rw [hpi] at f4
        exact put_c D ((b1.trans b2).trans b) h (hB2.keep (b.any _)) hl hkr f1 f2 f3 f4 (b.get _ _ id xk) (b.get _ _ id xv) ok ov
      | some j =>
        have hj := posP_lt hpos
        have hpi : posI prs ⟨kk, kn⟩ = ((2 * j : Nat) : Int) := by simp only [posI, hpos]
        rw [hpi] at f4
        cases hv : nullV ⟨vk, vn⟩ with
        | true => exact put_a D ((b1.trans b2).trans b) h (hB2.keep (b.any _)) hl hr hkr f1 f2 f3 f4 (b.get _ _ id xk) (b.get _ _ id xv) ok ov hj hv
        | false =>
          simp only [Bool.false_eq_true, if_false, List.getElem?_eq_getElem hj, Option.map_some, Option.getD_some]
          exact put_b D ((b1.trans b2).trans b) h (hB2.keep (b.any _)) hl hr hkr f1 f2 f3 f4 (b.get _ _ id xk) (b.get _ _ id xv) ok ov hj hv)
  rw [body126]
  generalize seqTail 3 cf126.body = tl at *
  generalize hM2 : (M.new (.cells [.int 3 kk, .int 3 kn] false)).new (.cells [.int 3 vk, .int 3 vn] false) = M2 at *
  have ht2 := hB2.tpc
  simp only [go_sem, reduceCtorEq, Nat.reduceEqDiff, Nat.reduceAdd, Nat.reduceMul, Nat.reduceLeDiff, Nat.reduceSub, Nat.reduceLT, Nat.reduceBEq, Nat.reduceBNe, Int.reduceBEq, Int.reduceBNe, Int.reduceLT, Int.reduceLE, Int.reduceAdd, Int.reduceEq, Int.reduceNe, beq_self_eq_true, bne_self_eq_false, decide_true, decide_false, Bool.not_true, Bool.not_false, Bool.false_eq_true, false_and, and_false, not_true_eq_false, not_false_eq_true, cf126, seqHead, seqTail, VlA, htp, ne1, l1, xk, hM2, ht2]
  refine (placed_spec D.h128 ⟨kk, kn⟩ _).use ?_
  rintro r M3 hw3 ⟨rfl, b3⟩
  have hB3 := hB2.keep (b3.any _)
  have ht3 := hB3.tpc
  have xk3 := b3.get _ _ id xk
  have xv3 := b3.get _ _ id xv
  cases hp : placedV ⟨kk, kn⟩ (arr.length : Int) with
  | true =>
    have hp' := hp
    simp only [placedV, Bool.and_eq_true, decide_eq_true_eq] at hp'
    obtain ⟨hk3, hk1, hk2⟩ := hp'
    have e1 : IntKind.i64.wrap (kn - 1) = ((kn.toNat - 1 : Nat) : Int) := by rw [wrap64 (by omega) (by omega)]; omega
    have hi : kn.toNat - 1 < arr.length := by omega
    simp only [go_sem, reduceCtorEq, Nat.reduceEqDiff, Nat.reduceAdd, Nat.reduceMul, Nat.reduceLeDiff, Nat.reduceSub, Nat.reduceLT, Nat.reduceBEq, Nat.reduceBNe, Int.reduceBEq, Int.reduceBNe, Int.reduceLT, Int.reduceLE, Int.reduceAdd, Int.reduceEq, Int.reduceNe, beq_self_eq_true, bne_self_eq_false, decide_true, decide_false, Bool.not_true, Bool.not_false, Bool.false_eq_true, false_and, and_false, not_true_eq_false, not_false_eq_true, xk3, xv3, e1]
    refine (lay_spec D.toDcT D.h147 D.h149 D.h77 (v := ⟨vk, vn⟩) hB3 hi (by omega) (hra _ (List.getElem_mem hi))).use ?_
    rintro r M4 hw4 ⟨rfl, ⟨va4, hB4⟩, b4⟩
    simp only [go_sem, reduceCtorEq, Nat.reduceEqDiff, Nat.reduceAdd, Nat.reduceMul, Nat.reduceLeDiff, Nat.reduceSub, Nat.reduceLT, Nat.reduceBEq, Nat.reduceBNe, Int.reduceBEq, Int.reduceBNe, Int.reduceLT, Int.reduceLE, Int.reduceAdd, Int.reduceEq, Int.reduceNe, beq_self_eq_true, bne_self_eq_false, decide_true, decide_false, Bool.not_true, Bool.not_false, Bool.false_eq_true, false_and, and_false, not_true_eq_false, not_false_eq_true]
    refine ⟨rfl, ⟨own, va4, vp, ?_, fun p hp => .inl hp⟩, (((b1.trans b2).trans b3).any _).trans b4⟩
    simp only [putT, hp, if_true]
    exact hB4
  | false =>
    simp only [go_sem, reduceCtorEq, Nat.reduceEqDiff, Nat.reduceAdd, Nat.reduceMul, Nat.reduceLeDiff, Nat.reduceSub, Nat.reduceLT, Nat.reduceBEq, Nat.reduceBNe, Int.reduceBEq, Int.reduceBNe, Int.reduceLT, Int.reduceLE, Int.reduceAdd, Int.reduceEq, Int.reduceNe, beq_self_eq_true, bne_self_eq_false, decide_true, decide_false, Bool.not_true, Bool.not_false, Bool.false_eq_true, false_and, and_false, not_true_eq_false, not_false_eq_true, xk3]
    refine (find_spec (l := prs) (k := ⟨kk, kn⟩) D.h148 (by omega) ht3 hB3.prs_.rows).use ?_
    rintro r M4 hw4 ⟨rfl, b4⟩
    simp only [go_sem, reduceCtorEq, Nat.reduceEqDiff, Nat.reduceAdd, Nat.reduceMul, Nat.reduceLeDiff, Nat.reduceSub, Nat.reduceLT, Nat.reduceBEq, Nat.reduceBNe, Int.reduceBEq, Int.reduceBNe, Int.reduceLT, Int.reduceLE, Int.reduceAdd, Int.reduceEq, Int.reduceNe, beq_self_eq_true, bne_self_eq_false, decide_true, decide_false, Bool.not_true, Bool.not_false, Bool.false_eq_true, false_and, and_false, not_true_eq_false, not_false_eq_true]
    refine tail _ _ hw4 (b3.trans b4) ?_ ?_ ?_ ?_ hp
    all_goals first | rfl | simp [Tr.get_set]
end Go.Proofs.Ythpnhdopheofcaa

end
