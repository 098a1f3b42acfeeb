import Derived.Test.YthpnhdopheofcaaTf
import Derived.Test.YthpnhdopheofcaaTt
import Derived.Test.YthpnhdopheofcaaFns
import Derived.Test.YthpnhdopheofcaaSt
import Derived.Test.YthpnhdopheofcaaDxAsl
set_option linter.unusedSimpArgs false
set_option linter.unusedVariables false
section
namespace Go.Proofs.Ythpnhdopheofcaa
open Go.Dx
variable {tbl : Nat → Option CFunc}

theorem OwnUp.trans_ {t : Tag} {M M1 M2 : Mem} {a b c : Own} (h1 : OwnUp t M M1 a b) (h2 : OwnUp t M1 M2 b c) (n1 : M.next.num ≤ M1.next.num) (n2 : M1.next.num ≤ M2.next.num) : OwnUp t M M2 a c := fun p => by
  rcases h2 p with e | ⟨e1, e2, e3, e4⟩
  · rw [e]
    rcases h1 p with e' | ⟨e1, e2, e3, e4⟩
    · exact .inl e'
    · exact .inr ⟨e1, e2, e3, by omega⟩
  · rcases h1 p with e' | ⟨k1, k2, k3, k4⟩
    · exact .inr ⟨by rw [← e', e1], e2, by omega, e4⟩
    · rw [e1] at k2; cases k2

theorem FreshSl.app {M M1 : Mem} {v u : AV} {size : Nat} {L X : List (List AV)} (h : FreshSl M M1 v size L) (hb : But (fun _ => False) M M1) (hw : M.wf) (hw1 : M1.wf) (hu : SlIs M1 u size X) (hn : lenOf u = some X.length) (hst : ∀ l n, u ≠ .str l n) (hc : ∀ x ∈ X, x.all isCell = true) (hs : 0 < size) (hm : L.length + X.length ≤ most) :
    ∃ v' M2, appO M1 size v u = some (v', M2) ∧ FreshSl M M2 v' size (L ++ X) ∧ But (fun _ => False) M M2 ∧ M2.wf := by
  have hsrc := hu.src hn hst
  have hx : ∀ x ∈ X, x.length = size ∧ x.all isCell = true := fun x h => ⟨hu.2.1 x h, hc x h⟩
  have key : ∀ (own : Own) (t : Tag), own.in M → ∃ own', OwnUp t M M1 own own' ∧ ∃ v' M' own'', appendM M1 size X.length X.flatten v = some (v', M') ∧ SlO M' own'' t v' size (L ++ X) ∧ OwnUp t M1 M' own' own'' ∧ But (fun p => own' p = some t) M1 M' ∧ M'.wf := fun own t hi => by
    obtain ⟨own', u1, s1⟩ := h own t hi
    exact ⟨own', u1, s1.append_ hw1 (u1.in_ hi hb.next) hx hs hm⟩
  obtain ⟨own', u1, v', M', own'', h1, h2, h3, h4, h5⟩ := key (fun _ => none) (0, 0) (fun p h => absurd rfl h)
  have hb4 : But (fun p => M.next.num ≤ p.num) M1 M' := h4.mono fun p hp => by
    rcases u1 p with e | ⟨_, _, e, _⟩
    · rw [e] at hp; cases hp
    · exact e
  refine ⟨v', M', ?_, fun own t hi => ?_, But.fresh hw ((hb.any _).trans (hb4.mono fun p e => .inr e)), h5⟩
  · simp only [appO, hn, Option.bind_some, hsrc]; exact h1
  · obtain ⟨o1, u2, w, M'', o2, g1, g2, g3, g4, g5⟩ := key own t hi
    rw [h1] at g1
    cases g1
    exact ⟨o2, OwnUp.trans_ u2 g3 hb.next g4.next, g2⟩

theorem FreshSl.nil_ (M M' : Mem) (size : Nat) : FreshSl M M' .nilslice size [] := fun own t _ => ⟨own, OwnUp.refl _ _ _ _, SlO.nil _ _ _ _⟩

/-- slices.Grow of nothing. -/
theorem grow0_spec (h : tbl 152 = some cf152) {M : Mem} {n : Nat} (hn : n ≤ 2 ^ 22) :
    CallW tbl 152 (.cons .nilslice (.cons (.int 3 (n : Int)) .nil)) M fun r M' => ∃ v, r = .ret v ∧ But (fun _ => False) M M' ∧ FreshSl M M' v 2 [] := by
  refine CallW.wf fun hw => ?_
  refine CallW.intro h rfl (fr := .nod (.val .leaf .nilslice .leaf) (.val .leaf (.int 3 (n : Int)) .leaf)) rfl ?_
  have g1 : decide ((n : Int) < 0) = false := by simp only [decide_eq_false_iff_not]; omega
  have e0 : IntKind.i64.wrap (0 - 0) = 0 := rfl
  have e1 : IntKind.i64.wrap ((n : Int) - 0) = (n : Int) := by rw [wrap64 (by omega) (by omega)]; omega
  by_cases h0 : 0 < n
  · have g2 : decide ((0 : Int) < (n : Int)) = true := by simp only [decide_eq_true_eq]; omega
    have q0 : sliceM M 2 none (some 0) none .nilslice = some .nilslice := rfl
    have n0 : natO (AV.int 3 (n : Int)) = some n := by simp [natO]
    simp only [go_sem, reduceCtorEq, Nat.reduceEqDiff, Nat.reduceAdd, Nat.reduceMul, Nat.reduceLeDiff, Nat.reduceSub, Nat.reduceLT, Nat.reduceBEq, Nat.reduceBNe, Int.reduceBEq, Int.reduceBNe, Int.reduceLT, Int.reduceLE, Int.reduceAdd, Int.reduceEq, Int.reduceNe, beq_self_eq_true, bne_self_eq_false, decide_true, decide_false, Bool.not_true, Bool.not_false, Bool.false_eq_true, false_and, and_false, not_true_eq_false, not_false_eq_true, cf152, g1, e0, e1, g2, q0, n0]
    have hrl := repl_len (AV.cons (.int 3 0) (.cons (.int 3 0) .nil)) rfl n
    refine ⟨⟨by simp only [most]; omega, rfl⟩, ?_⟩
    have hrz : ∀ n, (repl (AV.cons (.int 3 0) (.cons (.int 3 0) .nil)) n).toL = (List.replicate n [AV.int 3 0, AV.int 3 0]).flatten := by
      intro n
      induction n with
      | zero => rfl
      | succ n ih =>
        rw [List.replicate_succ, List.flatten_cons, ← ih]
        rfl
    have hx : ∀ x ∈ List.replicate n [AV.int 3 0, AV.int 3 0], x.length = 2 ∧ x.all isCell = true := fun x hx => by rw [(List.mem_replicate.1 hx).2]; exact ⟨rfl, rfl⟩
    have app := fun (own : Own) (t : Tag) (hi : own.in M) => (SlO.nil M own t 2).append_ hw hi hx (by omega) (by simp only [most, List.length_nil, List.length_replicate]; omega)
    obtain ⟨v', M', own', h1, h2, h3, h4, h5⟩ := app (fun _ => none) (0, 0) (fun p h => absurd rfl h)
    obtain ⟨v2, k1, k2⟩ := h2.take_ (by omega) (k := 0) (Nat.zero_le _)
    rw [List.length_replicate] at h1
    simp only [go_sem, reduceCtorEq, Nat.reduceEqDiff, Nat.reduceAdd, Nat.reduceMul, Nat.reduceLeDiff, Nat.reduceSub, Nat.reduceLT, Nat.reduceBEq, Nat.reduceBNe, Int.reduceBEq, Int.reduceBNe, Int.reduceLT, Int.reduceLE, Int.reduceAdd, Int.reduceEq, Int.reduceNe, beq_self_eq_true, bne_self_eq_false, decide_true, decide_false, Bool.not_true, Bool.not_false, Bool.false_eq_true, false_and, and_false, not_true_eq_false, not_false_eq_true]
    refine ⟨hrl.2, ?_⟩
    rw [hrz]
    simp only [go_sem, reduceCtorEq, Nat.reduceEqDiff, Nat.reduceAdd, Nat.reduceMul, Nat.reduceLeDiff, Nat.reduceSub, Nat.reduceLT, Nat.reduceBEq, Nat.reduceBNe, Int.reduceBEq, Int.reduceBNe, Int.reduceLT, Int.reduceLE, Int.reduceAdd, Int.reduceEq, Int.reduceNe, beq_self_eq_true, bne_self_eq_false, decide_true, decide_false, Bool.not_true, Bool.not_false, Bool.false_eq_true, false_and, and_false, not_true_eq_false, not_false_eq_true, h1, k1]
    have n1 : natO (AV.int 3 0) = some 0 := rfl
    refine ⟨_, rfl, (h4.mono fun p h => by cases h), fun own t hi => ?_⟩
    obtain ⟨w, M2, o2, g1, g2, g3, g4, g5⟩ := app own t hi
    rw [List.length_replicate, h1] at g1
    cases g1
    obtain ⟨w2, r1, r2⟩ := g2.take_ (by omega) (k := 0) (Nat.zero_le _)
    rw [k1] at r1
    cases r1
    exact ⟨o2, g3, r2⟩
  · have g2 : decide ((0 : Int) < (n : Int)) = false := by simp only [decide_eq_false_iff_not]; omega
    simp only [go_sem, reduceCtorEq, Nat.reduceEqDiff, Nat.reduceAdd, Nat.reduceMul, Nat.reduceLeDiff, Nat.reduceSub, Nat.reduceLT, Nat.reduceBEq, Nat.reduceBNe, Int.reduceBEq, Int.reduceBNe, Int.reduceLT, Int.reduceLE, Int.reduceAdd, Int.reduceEq, Int.reduceNe, beq_self_eq_true, bne_self_eq_false, decide_true, decide_false, Bool.not_true, Bool.not_false, Bool.false_eq_true, false_and, and_false, not_true_eq_false, not_false_eq_true, cf152, g1, e0, e1, g2]
    exact ⟨_, rfl, But.refl _ _, FreshSl.nil_ _ _ _⟩
/-- Values of many slices, one behind the other. -/
def catV (ss : List (AV × List Vl)) : List Vl := (ss.map (·.2)).flatten
theorem catV_take (ss : List (AV × List Vl)) {i : Nat} (hi : i < ss.length) : catV (ss.take (i + 1)) = catV (ss.take i) ++ (ss[i]).2 := by
  rw [catV, List.take_succ_eq_append_getElem hi, List.map_append, List.flatten_append]
  simp only [List.map_cons, List.map_nil, List.flatten_cons, List.flatten_nil, List.append_nil]
  rfl
theorem catV_le (ss : List (AV × List Vl)) (i : Nat) : (catV (ss.take i)).length ≤ (catV ss).length := by
  conv => rhs; rw [← List.take_append_drop i ss]
  simp only [catV, List.map_append, List.flatten_append, List.length_append]
  omega

theorem concat_spec (h : tbl 127 = some cf127) (h152 : tbl 152 = some cf152) {M : Mem} {sv : AV} {ss : List (AV × List Vl)} (hs : SlIs M sv 1 (ss.map fun s => [s.1])) (hss : ∀ s ∈ ss, SlIs M s.1 2 (VlL s.2) ∧ lenOf s.1 = some s.2.length ∧ ∀ l n, s.1 ≠ .str l n) (hl : ss.length ≤ 2 ^ 20) (hm : (catV ss).length ≤ 2 ^ 22) :
    CallW tbl 127 (.cons sv .nil) M fun r M' => ∃ v, r = .ret v ∧ But (fun _ => False) M M' ∧ FreshSl M M' v 2 (VlL (catV ss)) := by
  refine CallW.wf fun hw => ?_
  refine CallW.intro h rfl (fr := .nod (.val .leaf sv .leaf) .leaf) rfl ?_
  have hlen := hs.len
  rw [List.length_map] at hlen
  have hml : (ss.map fun s => [s.1]).length = ss.length := List.length_map _
  simp only [go_sem, reduceCtorEq, Nat.reduceEqDiff, Nat.reduceAdd, Nat.reduceMul, Nat.reduceLeDiff, Nat.reduceSub, Nat.reduceLT, Nat.reduceBEq, Nat.reduceBNe, Int.reduceBEq, Int.reduceBNe, Int.reduceLT, Int.reduceLE, Int.reduceAdd, Int.reduceEq, Int.reduceNe, beq_self_eq_true, bne_self_eq_false, decide_true, decide_false, Bool.not_true, Bool.not_false, Bool.false_eq_true, false_and, and_false, not_true_eq_false, not_false_eq_true, cf127, hlen]
  refine loop_wp (I := fun n fr M' => n ≤ ss.length ∧ M' = M ∧ fr.get (.o .h) = some sv ∧ fr.get (.i (.i (.o .h))) = some sv ∧ fr.get (.o (.o (.i .h))) = some (.int 3 ss.length) ∧ fr.get (.i (.o (.i .h))) = some (.int 3 ((ss.length - n : Nat) : Int)) ∧ fr.get (.i (.o .h)) = some (.int 3 ((catV (ss.take (ss.length - n))).length : Int))) (n := ss.length) ?_ ?_
  · exact ⟨Nat.le_refl _, rfl, rfl, rfl, rfl, by rw [Nat.sub_self]; rfl, by rw [Nat.sub_self]; rfl⟩
  · rintro n fr M' ⟨i1, rfl, f1, f2, f3, f4, f5⟩
    cases n with
    | succ n =>
      have g1 : decide (((ss.length - (n + 1) : Nat) : Int) < (ss.length : Int)) = true := by simp only [decide_eq_true_eq]; omega
      have hi : ss.length - (n + 1) < ss.length := by omega
      obtain ⟨p, po, a1, a2⟩ := hs.at_ (i := ss.length - (n + 1)) (by rw [hml]; exact hi)
      rw [hml] at a1
      have a3 : (ss.map fun s => [s.1])[ss.length - (n + 1)]? = some [(ss[ss.length - (n + 1)]).1] := by simp [hi]
      rw [a3] at a2
      have a4 : MB.cell (M'.get p) (po + (ss.length - (n + 1)) * 1) = some (ss[ss.length - (n + 1)]).1 := by have := MB.cell_row a2 (j := 0) (by omega); simpa using this
      have hx := hss _ (List.getElem_mem hi)
      have ht := catV_take ss hi
      have hle := catV_le ss (ss.length - (n + 1) + 1)
      generalize ss[ss.length - (n + 1)] = x at *
      obtain ⟨xa, xl⟩ := x
      have hxl := hx.1.len
      rw [vlL_len] at hxl
      have e0 : ss.length - n = ss.length - (n + 1) + 1 := by omega
      rw [ht, List.length_append] at hle
      generalize hcl : (catV (ss.take (ss.length - (n + 1)))).length = cl at *
      have e1 : IntKind.i64.wrap ((cl : Int) + (xl.length : Int)) = ((cl + xl.length : Nat) : Int) := by rw [wrap64 (by omega) (by simp only at *; omega)]; omega
      have e2 : IntKind.i64.wrap (((ss.length - (n + 1) : Nat) : Int) + 1) = ((ss.length - n : Nat) : Int) := by rw [wrap64 (by omega) (by omega)]; omega
      have g2 : decide (((cl + xl.length : Nat) : Int) < 0) = false := by simp only [decide_eq_false_iff_not]; omega
      simp only at hxl
      simp only [go_sem, reduceCtorEq, Nat.reduceEqDiff, Nat.reduceAdd, Nat.reduceMul, Nat.reduceLeDiff, Nat.reduceSub, Nat.reduceLT, Nat.reduceBEq, Nat.reduceBNe, Int.reduceBEq, Int.reduceBNe, Int.reduceLT, Int.reduceLE, Int.reduceAdd, Int.reduceEq, Int.reduceNe, beq_self_eq_true, bne_self_eq_false, decide_true, decide_false, Bool.not_true, Bool.not_false, Bool.false_eq_true, false_and, and_false, not_true_eq_false, not_false_eq_true, f1, f2, f3, f4, f5, g1, a1, hi, a4, hxl, e1, e2, g2]
      refine ⟨n, by omega, by omega, rfl, by simp [Tr.get_set, f1], by simp [Tr.get_set, f2], by simp [Tr.get_set, f3], by rw [Tr.get_set]; rfl, ?_⟩
      rw [e0, ht, List.length_append, hcl]
      simp only [Tr.get_set]
      rfl
    | zero =>
      have g1 : decide (((ss.length - 0 : Nat) : Int) < (ss.length : Int)) = false := by simp only [decide_eq_false_iff_not]; omega
      rw [Nat.sub_zero, List.take_length] at f5
      simp only [go_sem, reduceCtorEq, Nat.reduceEqDiff, Nat.reduceAdd, Nat.reduceMul, Nat.reduceLeDiff, Nat.reduceSub, Nat.reduceLT, Nat.reduceBEq, Nat.reduceBNe, Int.reduceBEq, Int.reduceBNe, Int.reduceLT, Int.reduceLE, Int.reduceAdd, Int.reduceEq, Int.reduceNe, beq_self_eq_true, bne_self_eq_false, decide_true, decide_false, Bool.not_true, Bool.not_false, Bool.false_eq_true, false_and, and_false, not_true_eq_false, not_false_eq_true, f1, f2, f3, f4, f5, g1]
      refine (grow0_spec h152 hm).use ?_
      rintro r M1 hw1 ⟨v1, rfl, b1, s1⟩
      simp only [go_sem, reduceCtorEq, Nat.reduceEqDiff, Nat.reduceAdd, Nat.reduceMul, Nat.reduceLeDiff, Nat.reduceSub, Nat.reduceLT, Nat.reduceBEq, Nat.reduceBNe, Int.reduceBEq, Int.reduceBNe, Int.reduceLT, Int.reduceLE, Int.reduceAdd, Int.reduceEq, Int.reduceNe, beq_self_eq_true, bne_self_eq_false, decide_true, decide_false, Bool.not_true, Bool.not_false, Bool.false_eq_true, false_and, and_false, not_true_eq_false, not_false_eq_true, f1, hlen]
      refine loop_wp (I := fun n fr M2 => n ≤ ss.length ∧ M2.wf ∧ But (fun _ => False) M' M2 ∧ (∃ v, FreshSl M' M2 v 2 (VlL (catV (ss.take (ss.length - n)))) ∧ fr.get (.o (.o (.o .h))) = some v) ∧ fr.get (.i (.i (.o (.i .h)))) = some sv ∧ fr.get (.o (.o (.i (.i .h)))) = some (.int 3 ss.length) ∧ fr.get (.i (.o (.i (.i .h)))) = some (.int 3 ((ss.length - n : Nat) : Int))) (n := ss.length) ?_ ?_
      · exact ⟨Nat.le_refl _, hw1, b1, ⟨v1, by rw [Nat.sub_self]; exact s1, by simp [Tr.get_set]⟩, by simp [Tr.get_set], by simp [Tr.get_set], by rw [Nat.sub_self]; simp [Tr.get_set]⟩
      · rintro n fr M2 ⟨i1, i2, i3, ⟨v, i4, f5⟩, f2, f3, f4⟩
        cases n with
        | zero =>
          have g1 : decide (((ss.length - 0 : Nat) : Int) < (ss.length : Int)) = false := by simp only [decide_eq_false_iff_not]; omega
          rw [Nat.sub_zero, List.take_length] at i4
          simp only [go_sem, reduceCtorEq, Nat.reduceEqDiff, Nat.reduceAdd, Nat.reduceMul, Nat.reduceLeDiff, Nat.reduceSub, Nat.reduceLT, Nat.reduceBEq, Nat.reduceBNe, Int.reduceBEq, Int.reduceBNe, Int.reduceLT, Int.reduceLE, Int.reduceAdd, Int.reduceEq, Int.reduceNe, beq_self_eq_true, bne_self_eq_false, decide_true, decide_false, Bool.not_true, Bool.not_false, Bool.false_eq_true, false_and, and_false, not_true_eq_false, not_false_eq_true, f2, f3, f4, f5, g1]
          exact ⟨v, rfl, i3, i4⟩
        | succ n =>
          have g1 : decide (((ss.length - (n + 1) : Nat) : Int) < (ss.length : Int)) = true := by simp only [decide_eq_true_eq]; omega
          have hi : ss.length - (n + 1) < ss.length := by omega
          obtain ⟨p, po, a1, a2⟩ := (hs.old i3.old).at_ (i := ss.length - (n + 1)) (by rw [hml]; exact hi)
          rw [hml] at a1
          have a3 : (ss.map fun s => [s.1])[ss.length - (n + 1)]? = some [(ss[ss.length - (n + 1)]).1] := by simp [hi]
          rw [a3] at a2
          have a4 : MB.cell (M2.get p) (po + (ss.length - (n + 1)) * 1) = some (ss[ss.length - (n + 1)]).1 := by have := MB.cell_row a2 (j := 0) (by omega); simpa using this
          have hx := hss _ (List.getElem_mem hi)
          have ht := catV_take ss hi
          have hle := catV_le ss (ss.length - (n + 1) + 1)
          generalize ss[ss.length - (n + 1)] = x at *
          obtain ⟨xa, xl⟩ := x
          rw [ht, List.length_append] at hle
          simp only at hle
          obtain ⟨v3, M3, p3, s3, b3, w3⟩ := i4.app i3 hw i2 (hx.1.old i3.old) (by rw [vlL_len]; exact hx.2.1) hx.2.2 (fun y hy => by obtain ⟨z, _, rfl⟩ := List.mem_map.1 hy; rfl) (by omega) (by rw [vlL_len, vlL_len]; simp only [most]; omega)
          have e0 : ss.length - n = ss.length - (n + 1) + 1 := by omega
          have hv : VlL (catV (ss.take (ss.length - (n + 1)))) ++ VlL xl = VlL (catV (ss.take (ss.length - n))) := by rw [e0, ht]; simp [VlL]
          simp only at s3
          rw [hv] at s3
          have e2 : IntKind.i64.wrap (((ss.length - (n + 1) : Nat) : Int) + 1) = ((ss.length - n : Nat) : Int) := by rw [wrap64 (by omega) (by omega)]; omega
          simp only at p3
          simp only [go_sem, reduceCtorEq, Nat.reduceEqDiff, Nat.reduceAdd, Nat.reduceMul, Nat.reduceLeDiff, Nat.reduceSub, Nat.reduceLT, Nat.reduceBEq, Nat.reduceBNe, Int.reduceBEq, Int.reduceBNe, Int.reduceLT, Int.reduceLE, Int.reduceAdd, Int.reduceEq, Int.reduceNe, beq_self_eq_true, bne_self_eq_false, decide_true, decide_false, Bool.not_true, Bool.not_false, Bool.false_eq_true, false_and, and_false, not_true_eq_false, not_false_eq_true, f2, f3, f4, f5, g1, a1, hi, a4, e2, p3]
          exact ⟨n, by omega, by omega, w3, b3, ⟨v3, s3, by simp [Tr.get_set]⟩, by simp [Tr.get_set, f2], by simp [Tr.get_set, f3], by rw [Tr.get_set]; rfl⟩
end Go.Proofs.Ythpnhdopheofcaa

end
section
namespace Go.Proofs.Ythpnhdopheofcaa
open Go.Dx
variable {tbl : Nat → Option CFunc}

theorem growF_len : ∀ (n : Nat) (a : List Vl) (l : List (Vl × Vl)), (growF n a l).1.length + 2 * (growF n a l).2.length ≤ a.length + 2 * l.length
  | 0, a, l => Nat.le_refl _
  | n + 1, a, l => by
    unfold growF
    cases h : posP l ⟨3, (a.length : Int) + 1⟩ with
    | none => exact Nat.le_refl _
    | some j =>
      have hj := posP_lt h
      have := growF_len n (a ++ [((l[j]?).map (·.2)).getD ⟨1, 0⟩]) (takeP l j)
      rw [takeP_len hj, List.length_append, List.length_singleton] at this
      simp only
      omega
theorem trimF_len : ∀ (n : Nat) (l : List Vl), (trimF n l).length ≤ l.length
  | 0, l => Nat.le_refl _
  | n + 1, l => by
    unfold trimF
    cases h : l.getLast? with
    | none => exact Nat.le_refl _
    | some v =>
      simp only
      split
      · have := trimF_len n l.dropLast
        rw [List.length_dropLast] at this
        omega
      · exact Nat.le_refl _
theorem layV_len (l : List Vl) (i : Nat) (v : Vl) : (layV l i v).length ≤ l.length := by
  unfold layV
  split
  · rw [List.length_set]; exact Nat.le_refl _
  · have := trimF_len l.length (l.set i v)
    rw [List.length_set] at this
    exact this
theorem putT_len (arr : List Vl) (prs : List (Vl × Vl)) (k v : Vl) : (putT arr prs k v).1.length + 2 * (putT arr prs k v).2.length ≤ arr.length + 2 * prs.length + 2 := by
  unfold putT
  split
  · have := layV_len arr (k.n.toNat - 1) v
    simp only; omega
  · cases h : posP prs k with
    | some j =>
      have hj := posP_lt h
      simp only
      split
      · simp only [takeP_len hj]; omega
      · simp only [List.length_set]; omega
    | none =>
      simp only
      split
      · simp only; omega
      · split
        · have := growF_len prs.length (arr ++ [v]) prs
          rw [List.length_append, List.length_singleton] at this
          omega
        · simp only [List.length_append, List.length_singleton]; omega

def Tb.put (T : Tb) (k v : Vl) : Tb := ⟨T.met, (putT T.arr T.prs k v).1, (putT T.arr T.prs k v).2⟩

theorem slO_nostr {M : Mem} {own : Own} {t : Tag} {v : AV} {size : Nat} {L : List (List AV)} (h : SlO M own t v size L) : ∀ l n, v ≠ .str l n := by
  rintro l n rfl
  have := h.len
  cases this

theorem body90 : cf90.body = .seq (seqHead cf90.body) (.seq (seqHead (seqTail 1 cf90.body)) (.seq (seqHead (seqTail 2 cf90.body)) (.seq (seqHead (seqTail 3 cf90.body)) (seqTail 4 cf90.body)))) := rfl

theorem dput_tail (D : PutT tbl) (h76 : tbl 76 = some cf76) (h127 : tbl 127 = some cf127) (h152 : tbl 152 = some cf152) {M0 M : Mem} {sv a p : AV} {pk pv : Pos} {T : Tb} {k v : Vl} {fr : Tr AV} (b0 : But (fun _ => False) M0 M) (hw0 : M0.wf) (hw : M.wf) (hs : SlIs M sv 2 (VlL T.slots)) (hl : T.slots.length ≤ 2 ^ 19)
    (sa : SlIs M a 2 (VlL T.arr)) (sp : SlIs M p 2 (VlL (flatP T.prs)))
    (hra : ∀ x ∈ T.arr, refV x = false) (hr : ∀ x ∈ T.prs, refV x.1 = false ∧ refV x.2 = false) (hkr : refV k = false)
    (f1 : fr.get (.o .h) = some sv) (f2 : fr.get (.o (.i .h)) = some (.ptr pk 0)) (f3 : fr.get (.i (.i .h)) = some (.ptr pv 0)) (f4 : fr.get (.i (.i (.o .h))) = some a) (f5 : fr.get (.o (.o (.i .h))) = some p)
    (xk : M.get pk = some (.cells [.int 3 k.k, .int 3 k.n] false)) (xv : M.get pv = some (.cells [.int 3 v.k, .int 3 v.n] false)) :
    CCode.wp tbl (seqTail 4 cf90.body) fr M (finW cf90.results fun r M' => ∃ nv, r = .ret (.tuple (.cons nv (.cons .nilslice (.cons (.int 3 0) .nil)))) ∧ But (fun _ => False) M0 M' ∧ FreshSl M0 M' nv 2 (VlL (T.put k v).slots)) := by
  obtain ⟨vk, vn⟩ := v
  obtain ⟨kk, kn⟩ := k
  have hn : T.slots.length = T.arr.length + 2 * T.prs.length + 2 := by simp only [Tb.slots, List.length_cons, List.length_append, flatP_len]
  simp only [go_sem, reduceCtorEq, Nat.reduceEqDiff, Nat.reduceAdd, Nat.reduceMul, Nat.reduceLeDiff, Nat.reduceSub, Nat.reduceLT, Nat.reduceBEq, Nat.reduceBNe, Int.reduceBEq, Int.reduceBNe, Int.reduceLT, Int.reduceLE, Int.reduceAdd, Int.reduceEq, Int.reduceNe, beq_self_eq_true, bne_self_eq_false, decide_true, decide_false, Bool.not_true, Bool.not_false, Bool.false_eq_true, false_and, and_false, not_true_eq_false, not_false_eq_true, cf90, seqTail, f1, f2, f3, f4, f5]
  refine (clone_spec h76 sa (vlL_cells _) (by rw [vlL_len]; simp only [most]; omega)).use ?_
  rintro r M1 hw1 ⟨va, rfl, b1, s1⟩
  simp only [go_sem, reduceCtorEq, Nat.reduceEqDiff, Nat.reduceAdd, Nat.reduceMul, Nat.reduceLeDiff, Nat.reduceSub, Nat.reduceLT, Nat.reduceBEq, Nat.reduceBNe, Int.reduceBEq, Int.reduceBNe, Int.reduceLT, Int.reduceLE, Int.reduceAdd, Int.reduceEq, Int.reduceNe, beq_self_eq_true, bne_self_eq_false, decide_true, decide_false, Bool.not_true, Bool.not_false, Bool.false_eq_true, false_and, and_false, not_true_eq_false, not_false_eq_true, f5]
  refine (clone_spec h76 (sp.old b1.old) (vlL_cells _) (by rw [vlL_len, flatP_len]; simp only [most]; omega)).use ?_
  rintro r M2 hw2 ⟨vp, rfl, b2, s2⟩
  have c1 := s1.cell
  have c2 := s2.cell
  obtain ⟨own1, u1, o1⟩ := s1 (fun _ => none) (31, 0) (fun p h => absurd rfl h)
  have i1 : own1.in M1 := u1.in_ (fun p h => absurd rfl h) b1.next
  obtain ⟨own2, u2, o2⟩ := s2 own1 (32, 0) i1
  have i2 : own2.in M2 := u2.in_ i1 b2.next
  have b3 := But.new (S := fun _ => False) hw2 (.cells [va, vp, .nilslice] false)
  have w3 := hw2.new (.cells [va, vp, .nilslice] false)
  have u3 := ownUp_new (t := (30, 0)) (M' := M2.new (.cells [va, vp, .nilslice] false)) i2 rfl
  have hB : DtB (M2.new (.cells [va, vp, .nilslice] false)) (own2.with M2.next (30, 0)) M2.next va vp .nilslice T.arr T.prs := by
    refine ⟨u3.in_ i2 b3.next, ?_, by simp [Mem.new], ?_, ?_, SlO.nil _ _ _ _⟩
    · simp [Own.with]
    · exact o1.keep (fun p b _ hp => (b2.trans b3).get p b id hp) fun p ho => u3.old (u2.old ho)
    · exact o2.keep (fun p b _ hp => b3.get p b id hp) fun p ho => u3.old ho
  have hown : ∀ p, (own2.with M2.next (30, 0)) p ≠ none → M.next.num ≤ p.num := fun p hp => by
    have n1 := b1.next
    have n2 := b2.next
    rcases u3 p with e | ⟨_, _, e, _⟩
    · rw [e] at hp
      rcases u2 p with e | ⟨_, _, e, _⟩
      · rw [e] at hp
        rcases u1 p with e | ⟨_, _, e, _⟩
        · rw [e] at hp; exact absurd rfl hp
        · exact e
      · omega
    · omega
  have xk3 := ((b1.trans b2).trans b3).get _ _ id xk
  have xv3 := ((b1.trans b2).trans b3).get _ _ id xv
  simp only [go_sem, reduceCtorEq, Nat.reduceEqDiff, Nat.reduceAdd, Nat.reduceMul, Nat.reduceLeDiff, Nat.reduceSub, Nat.reduceLT, Nat.reduceBEq, Nat.reduceBNe, Int.reduceBEq, Int.reduceBNe, Int.reduceLT, Int.reduceLE, Int.reduceAdd, Int.reduceEq, Int.reduceNe, beq_self_eq_true, bne_self_eq_false, decide_true, decide_false, Bool.not_true, Bool.not_false, Bool.false_eq_true, false_and, and_false, not_true_eq_false, not_false_eq_true, c1, c2, f2, f3, xk3, xv3]
  generalize hM3 : M2.new (.cells [va, vp, .nilslice] false) = M3 at *
  refine (put_spec D (k := ⟨kk, kn⟩) (v := ⟨vk, vn⟩) hB (by omega) hra hr hkr).use ?_
  rintro r M4 hw4 ⟨rfl, ⟨own4, va4, vp4, hB4, ho4⟩, b4⟩
  generalize hX : putT T.arr T.prs ⟨kk, kn⟩ ⟨vk, vn⟩ = X at *
  have hXl := putT_len T.arr T.prs ⟨kk, kn⟩ ⟨vk, vn⟩
  rw [hX] at hXl
  have b123 := (b1.trans b2).trans b3
  have hb4 : But (fun _ => False) M0 M4 := But.fresh hw0 (((b0.trans b123).any _).trans (b4.mono fun p hp => .inr (Nat.le_trans b0.next (hown p hp))))
  have hb4' : But (fun _ => False) M M4 := But.fresh hw ((b123.any _).trans (b4.mono fun p hp => .inr (hown p hp)))
  have ht4 := hB4.tpc
  have ne4 := hw4.ne ht4
  have l4 : slLen va4 = some X.1.length := by rw [hB4.arr_.len, vlL_len]
  simp only [go_sem, reduceCtorEq, Nat.reduceEqDiff, Nat.reduceAdd, Nat.reduceMul, Nat.reduceLeDiff, Nat.reduceSub, Nat.reduceLT, Nat.reduceBEq, Nat.reduceBNe, Int.reduceBEq, Int.reduceBNe, Int.reduceLT, Int.reduceLE, Int.reduceAdd, Int.reduceEq, Int.reduceNe, beq_self_eq_true, bne_self_eq_false, decide_true, decide_false, Bool.not_true, Bool.not_false, Bool.false_eq_true, false_and, and_false, not_true_eq_false, not_false_eq_true, ht4, ne4, l4]
  refine (integer_spec D.h123 _).use ?_
  rintro r M5 hw5 ⟨rfl, b50⟩
  have b5s : But (fun _ => False) M4 ⟨M4.next.succ.succ, M4.get⟩ := ⟨by show M4.next.num ≤ M4.next.succ.succ.num; rw [Pos.num_succ, Pos.num_succ]; omega, fun _ _ _ h => h⟩
  have b5 := b5s.trans b50
  have hB5 := hB4.keep (b5.any _)
  have ht5 := hB5.tpc
  have ne5 := hw5.ne ht5
  obtain ⟨q, qo, a1, a2⟩ := vl_at (hs.old (hb4'.trans b5).old) (i := 0) (by omega)
  have hs0 : T.slots[0]'(by omega) = T.met := rfl
  rw [hs0] at a2
  have c4 := hB5.arr_.cell
  have c5 := hB5.prs_.cell
  have a3 : MB.cellsAt (M5.get q) (qo + 0) 2 = some [.int 3 T.met.k, .int 3 T.met.n] := by simpa using a2
  have g0 : 0 < T.slots.length := by omega
  obtain ⟨q', qo', a1', a2'⟩ := vl_at (hs.old hb4'.old) (i := 0) (by omega)
  rw [a1] at a1'
  cases a1'
  rw [hs0] at a2'
  have a4 : MB.cellsAt (M4.get q) (qo + 0) 2 = some [.int 3 T.met.k, .int 3 T.met.n] := by simpa using a2'
  have hn50 := b50.next
  have n0 : M4.next.succ.num = M4.next.num + 1 := Pos.num_succ _
  have n1 : M4.next.succ.succ.num = M4.next.num + 2 := by rw [Pos.num_succ, n0]
  have hn5 : M4.next.num + 2 ≤ M5.next.num := by rw [← n1]; exact hn50
  have m1 : M4.next.num < M5.next.num := by omega
  have m2 : M4.next.num < M4.next.succ.succ.num := by omega
  have m3 : M4.next.succ.num < M5.next.num := by omega
  have m4 : M4.next.succ.num < M4.next.succ.succ.num := by omega
  have m5 : M2.next.num < M4.next.num := hw4 _ _ ht4
  have ne6 : (M2.next = M4.next.succ) = False := Pos.ne_of_lt (by omega)
  simp only [go_sem, reduceCtorEq, Nat.reduceEqDiff, Nat.reduceAdd, Nat.reduceMul, Nat.reduceLeDiff, Nat.reduceSub, Nat.reduceLT, Nat.reduceBEq, Nat.reduceBNe, Int.reduceBEq, Int.reduceBNe, Int.reduceLT, Int.reduceLE, Int.reduceAdd, Int.reduceEq, Int.reduceNe, beq_self_eq_true, bne_self_eq_false, decide_true, decide_false, Bool.not_true, Bool.not_false, Bool.false_eq_true, false_and, and_false, not_true_eq_false, not_false_eq_true, f1, ht5, ht4, ne4, ne5, ne6, a1, a3, a4, g0, c4, c5, VlA, m1, m2, m3, m4]
  have hne : (M4.next = M4.next.succ) = False := Pos.ne_of_lt (by omega)
  have on4 : ∀ p : Pos, M4.next.num ≤ p.num → own4 p = none := fun p hp => by
    cases h : own4 p with
    | none => rfl
    | some t => have := hB4.inn p (by rw [h]; simp); omega
  have bp : But (fun p => own4 p = none ∧ M.next.num ≤ p.num) M5 ((M5.put M4.next (.cells [.int 3 T.met.k, .int 3 T.met.n, .int 3 3, .int 3 ↑X.1.length] false)).put M4.next.succ (.cells [.slice M4.next 0 2 2, va4, vp4] false)) := by
    have hn4 := hb4'.next
    exact (But.put (p := M4.next) _ ⟨on4 _ (Nat.le_refl _), hn4⟩ _).trans (But.put (p := M4.next.succ) _ ⟨on4 _ (by omega), by omega⟩ _)
  have hB6 := hB5.keep (bp.mono fun p h => h.1)
  have g61 : ((M5.put M4.next (.cells [.int 3 T.met.k, .int 3 T.met.n, .int 3 3, .int 3 ↑X.1.length] false)).put M4.next.succ (.cells [.slice M4.next 0 2 2, va4, vp4] false)).get M4.next = some (.cells [.int 3 T.met.k, .int 3 T.met.n, .int 3 3, .int 3 ↑X.1.length] false) := by simp [Mem.put, hne]
  have g62 : ((M5.put M4.next (.cells [.int 3 T.met.k, .int 3 T.met.n, .int 3 3, .int 3 ↑X.1.length] false)).put M4.next.succ (.cells [.slice M4.next 0 2 2, va4, vp4] false)).get M4.next.succ = some (.cells [.slice M4.next 0 2 2, va4, vp4] false) := by simp [Mem.put]
  generalize hM6 : (M5.put M4.next (.cells [.int 3 T.met.k, .int 3 T.met.n, .int 3 3, .int 3 ↑X.1.length] false)).put M4.next.succ (.cells [.slice M4.next 0 2 2, va4, vp4] false) = M6 at *
  have h61 : SlIs M6 (.slice M4.next 0 2 2) 2 (VlL [T.met, ⟨3, (X.1.length : Int)⟩]) := SlIs.made (X := VlL [T.met, ⟨3, (X.1.length : Int)⟩]) g61 (by simp [VlL, VlR]) (by intro y hy; simp [VlL, VlR] at hy; rcases hy with rfl | rfl <;> rfl) rfl
  have h62 : SlIs M6 (.slice M4.next.succ 0 3 3) 1 [[.slice M4.next 0 2 2], [va4], [vp4]] := SlIs.made (X := [[.slice M4.next 0 2 2], [va4], [vp4]]) g62 rfl (by intro y hy; simp at hy; rcases hy with rfl | rfl | rfl <;> rfl) rfl
  have bb6 : But (fun _ => False) M0 M6 := But.fresh hw0 (((hb4.trans b5).any _).trans (bp.mono fun p h => .inr (Nat.le_trans b0.next h.2)))
  refine (concat_spec h127 h152 (ss := [(.slice M4.next 0 2 2, [T.met, ⟨3, (X.1.length : Int)⟩]), (va4, X.1), (vp4, flatP X.2)]) h62 ?_ (by simp) ?_).use ?_
  · intro s hs
    simp only [List.mem_cons, List.not_mem_nil, or_false] at hs
    rcases hs with rfl | rfl | rfl
    · exact ⟨h61, rfl, by simp⟩
    · exact ⟨hB6.arr_.rows, by rw [hB6.arr_.len', vlL_len], slO_nostr hB6.arr_⟩
    · exact ⟨hB6.prs_.rows, by rw [hB6.prs_.len', flatV_len, flatP_len], slO_nostr hB6.prs_⟩
  · simp only [catV, List.map_cons, List.map_nil, List.flatten_cons, List.flatten_nil, List.append_nil, List.length_append, List.length_cons, List.length_nil, flatP_len]
    omega
  rintro r M7 hw7 ⟨nv, rfl, b7, s7⟩
  have ht6 := hB6.tpc
  have ht7 := b7.get _ _ id ht6
  have hcat : catV [(AV.slice M4.next 0 2 2, [T.met, ⟨3, (X.1.length : Int)⟩]), (va4, X.1), (vp4, flatP X.2)] = (T.put ⟨kk, kn⟩ ⟨vk, vn⟩).slots := by
    simp only [Tb.put, Tb.slots, hX, catV, List.map_cons, List.map_nil, List.flatten_cons, List.flatten_nil, List.append_nil]
    rfl
  rw [hcat] at s7
  simp only [go_sem, reduceCtorEq, Nat.reduceEqDiff, Nat.reduceAdd, Nat.reduceMul, Nat.reduceLeDiff, Nat.reduceSub, Nat.reduceLT, Nat.reduceBEq, Nat.reduceBNe, Int.reduceBEq, Int.reduceBNe, Int.reduceLT, Int.reduceLE, Int.reduceAdd, Int.reduceEq, Int.reduceNe, beq_self_eq_true, bne_self_eq_false, decide_true, decide_false, Bool.not_true, Bool.not_false, Bool.false_eq_true, false_and, and_false, not_true_eq_false, not_false_eq_true, ht4, ht6, ht7, ne4, ne5, ne6]
  first | exact ⟨nv, rfl, bb6.trans b7, s7.old bb6.next⟩ | trace_state
/-- dict.Put. -/
theorem dput_spec (D : PutT tbl) (h90 : tbl 90 = some cf90) (h76 : tbl 76 = some cf76) (h127 : tbl 127 = some cf127) (h152 : tbl 152 = some cf152) {M : Mem} {sv : AV} {T : Tb} {k v : Vl} (hs : CutSl M sv 2 (VlL T.slots)) (hT : TbOk T) (hl : T.slots.length ≤ 2 ^ 19)
    (hra : ∀ x ∈ T.arr, refV x = false) (hr : ∀ x ∈ T.prs, refV x.1 = false ∧ refV x.2 = false) (hkr : refV k = false) (hk : keyV k = true) (hkm : mayV k = true) (hvm : mayV v = true) (hv0 : v.k ≠ 0) :
    CallW tbl 90 (.cons sv (.cons (VlA k) (.cons (VlA v) .nil))) M fun r M' => ∃ nv, r = .ret (.tuple (.cons nv (.cons .nilslice (.cons (.int 3 0) .nil)))) ∧ But (fun _ => False) M M' ∧ FreshSl M M' nv 2 (VlL (T.put k v).slots) := by
  refine CallW.wf fun hw => ?_
  obtain ⟨vk, vn⟩ := v
  obtain ⟨kk, kn⟩ := k
  refine CallW.intro h90 rfl (fr := .nod (.val (.val .leaf (VlA ⟨vk, vn⟩) .leaf) sv .leaf) (.val .leaf (VlA ⟨kk, kn⟩) .leaf)) rfl ?_
  have b1 := But.new (S := fun _ => False) hw (.cells [.int 3 kk, .int 3 kn] false)
  have w1 := hw.new (.cells [.int 3 kk, .int 3 kn] false)
  have b2 := But.new (S := fun _ => False) w1 (.cells [.int 3 vk, .int 3 vn] false)
  have w2 := w1.new (.cells [.int 3 vk, .int 3 vn] false)
  have x1 : (M.new (.cells [.int 3 kk, .int 3 kn] false)).get M.next = some (.cells [.int 3 kk, .int 3 kn] false) := by simp only [go_sem, reduceCtorEq, Nat.reduceEqDiff, Nat.reduceAdd, Nat.reduceMul, Nat.reduceLeDiff, Nat.reduceSub, Nat.reduceLT, Nat.reduceBEq, Nat.reduceBNe, Int.reduceBEq, Int.reduceBNe, Int.reduceLT, Int.reduceLE, Int.reduceAdd, Int.reduceEq, Int.reduceNe, beq_self_eq_true, bne_self_eq_false, decide_true, decide_false, Bool.not_true, Bool.not_false, Bool.false_eq_true, false_and, and_false, not_true_eq_false, not_false_eq_true]
  have xk := b2.get _ _ id x1
  have xv : ((M.new (.cells [.int 3 kk, .int 3 kn] false)).new (.cells [.int 3 vk, .int 3 vn] false)).get M.next.succ = some (.cells [.int 3 vk, .int 3 vn] false) := by simp only [go_sem, reduceCtorEq, Nat.reduceEqDiff, Nat.reduceAdd, Nat.reduceMul, Nat.reduceLeDiff, Nat.reduceSub, Nat.reduceLT, Nat.reduceBEq, Nat.reduceBNe, Int.reduceBEq, Int.reduceBNe, Int.reduceLT, Int.reduceLE, Int.reduceAdd, Int.reduceEq, Int.reduceNe, beq_self_eq_true, bne_self_eq_false, decide_true, decide_false, Bool.not_true, Bool.not_false, Bool.false_eq_true, false_and, and_false, not_true_eq_false, not_false_eq_true]
  have b12 := b1.trans b2
  have tail := fun (a p : AV) (fr : Tr AV) (M2 : Mem) (h : M2.wf) (b : But (fun _ => False) M M2) (sa : SlIs M2 a 2 (VlL T.arr)) (sp : SlIs M2 p 2 (VlL (flatP T.prs))) (f1 : fr.get (.o .h) = some sv) (f2 : fr.get (.o (.i .h)) = some (.ptr M.next 0)) (f3 : fr.get (.i (.i .h)) = some (.ptr M.next.succ 0)) (f4 : fr.get (.i (.i (.o .h))) = some a) (f5 : fr.get (.o (.o (.i .h))) = some p) (xk : M2.get M.next = some (.cells [.int 3 kk, .int 3 kn] false)) (xv : M2.get M.next.succ = some (.cells [.int 3 vk, .int 3 vn] false)) =>
    dput_tail D h76 h127 h152 (k := ⟨kk, kn⟩) (v := ⟨vk, vn⟩) b hw h (hs.1.old b.old) hl sa sp hra hr hkr f1 f2 f3 f4 f5 xk xv
  rw [body90]
  generalize seqTail 4 cf90.body = tl at *
  simp only [go_sem, reduceCtorEq, Nat.reduceEqDiff, Nat.reduceAdd, Nat.reduceMul, Nat.reduceLeDiff, Nat.reduceSub, Nat.reduceLT, Nat.reduceBEq, Nat.reduceBNe, Int.reduceBEq, Int.reduceBNe, Int.reduceLT, Int.reduceLE, Int.reduceAdd, Int.reduceEq, Int.reduceNe, beq_self_eq_true, bne_self_eq_false, decide_true, decide_false, Bool.not_true, Bool.not_false, Bool.false_eq_true, false_and, and_false, not_true_eq_false, not_false_eq_true, cf90, seqHead, seqTail, VlA]
  generalize hM2 : (M.new (.cells [.int 3 kk, .int 3 kn] false)).new (.cells [.int 3 vk, .int 3 vn] false) = M2 at *
  refine (parts_spec D.toDcT (hs.quiet b12) hT).use ?_
  rintro r M3 hw3 ⟨a, p, mp, rfl, b3, sa, sp, _⟩
  have xk3 := b3.get _ _ id xk
  have xv3 := b3.get _ _ id xv
  simp only [go_sem, reduceCtorEq, Nat.reduceEqDiff, Nat.reduceAdd, Nat.reduceMul, Nat.reduceLeDiff, Nat.reduceSub, Nat.reduceLT, Nat.reduceBEq, Nat.reduceBNe, Int.reduceBEq, Int.reduceBNe, Int.reduceLT, Int.reduceLE, Int.reduceAdd, Int.reduceEq, Int.reduceNe, beq_self_eq_true, bne_self_eq_false, decide_true, decide_false, Bool.not_true, Bool.not_false, Bool.false_eq_true, false_and, and_false, not_true_eq_false, not_false_eq_true, xk3]
  refine (may_spec D.h117 D.h143 (v := ⟨kk, kn⟩)).use ?_
  rintro r M4 hw4 ⟨rfl, b4⟩
  have xv4 := b4.get _ _ id xv3
  simp only [go_sem, reduceCtorEq, Nat.reduceEqDiff, Nat.reduceAdd, Nat.reduceMul, Nat.reduceLeDiff, Nat.reduceSub, Nat.reduceLT, Nat.reduceBEq, Nat.reduceBNe, Int.reduceBEq, Int.reduceBNe, Int.reduceLT, Int.reduceLE, Int.reduceAdd, Int.reduceEq, Int.reduceNe, beq_self_eq_true, bne_self_eq_false, decide_true, decide_false, Bool.not_true, Bool.not_false, Bool.false_eq_true, false_and, and_false, not_true_eq_false, not_false_eq_true, hkm, xv4]
  refine (may_spec D.h117 D.h143 (v := ⟨vk, vn⟩)).use ?_
  rintro r M5 hw5 ⟨rfl, b5⟩
  have xv5 := b5.get _ _ id xv4
  have xk5 := (b4.trans b5).get _ _ id xk3
  have g : (vk == 0) = false := by simpa using hv0
  simp only [go_sem, reduceCtorEq, Nat.reduceEqDiff, Nat.reduceAdd, Nat.reduceMul, Nat.reduceLeDiff, Nat.reduceSub, Nat.reduceLT, Nat.reduceBEq, Nat.reduceBNe, Int.reduceBEq, Int.reduceBNe, Int.reduceLT, Int.reduceLE, Int.reduceAdd, Int.reduceEq, Int.reduceNe, beq_self_eq_true, bne_self_eq_false, decide_true, decide_false, Bool.not_true, Bool.not_false, Bool.false_eq_true, false_and, and_false, not_true_eq_false, not_false_eq_true, hvm, xv5, g, xk5]
  refine (key_spec D.h125 D.h117 D.h143 ⟨kk, kn⟩).use ?_
  rintro r M6 hw6 ⟨rfl, b6⟩
  simp only [go_sem, reduceCtorEq, Nat.reduceEqDiff, Nat.reduceAdd, Nat.reduceMul, Nat.reduceLeDiff, Nat.reduceSub, Nat.reduceLT, Nat.reduceBEq, Nat.reduceBNe, Int.reduceBEq, Int.reduceBNe, Int.reduceLT, Int.reduceLE, Int.reduceAdd, Int.reduceEq, Int.reduceNe, beq_self_eq_true, bne_self_eq_false, decide_true, decide_false, Bool.not_true, Bool.not_false, Bool.false_eq_true, false_and, and_false, not_true_eq_false, not_false_eq_true, hk]
  have bb := (b3.trans b4).trans (b5.trans b6)
  have b456 := b4.trans (b5.trans b6)
  refine tail a p _ M6 hw6 (b12.trans bb) (sa.old b456.old) (sp.old b456.old) ?_ ?_ ?_ ?_ ?_ (bb.get _ _ id xk) (bb.get _ _ id xv)
  all_goals first | rfl | simp [Tr.get_set]
end Go.Proofs.Ythpnhdopheofcaa

end
section
namespace Go.Proofs.Ythpnhdopheofcaa
open Go.Dx
variable {tbl : Nat → Option CFunc}

structure FnT (tbl : Nat → Option CFunc) : Prop where
  h25 : tbl 25 = some cf25
  h40 : tbl 40 = some cf40
  h41 : tbl 41 = some cf41
  h44 : tbl 44 = some cf44
  h45 : tbl 45 = some cf45
  h46 : tbl 46 = some cf46
  h47 : tbl 47 = some cf47
  h48 : tbl 48 = some cf48
  h49 : tbl 49 = some cf49
  h50 : tbl 50 = some cf50
  h51 : tbl 51 = some cf51
  h75 : tbl 75 = some cf75
  h76 : tbl 76 = some cf76
  h77 : tbl 77 = some cf77
  h81 : tbl 81 = some cf81
  h84 : tbl 84 = some cf84
  h85 : tbl 85 = some cf85
  h86 : tbl 86 = some cf86
  h87 : tbl 87 = some cf87
  h88 : tbl 88 = some cf88
  h89 : tbl 89 = some cf89
  h90 : tbl 90 = some cf90
  h91 : tbl 91 = some cf91
  h92 : tbl 92 = some cf92
  h93 : tbl 93 = some cf93
  h94 : tbl 94 = some cf94
  h95 : tbl 95 = some cf95
  h96 : tbl 96 = some cf96
  h97 : tbl 97 = some cf97
  h98 : tbl 98 = some cf98
  h99 : tbl 99 = some cf99
  h100 : tbl 100 = some cf100
  h103 : tbl 103 = some cf103
  h115 : tbl 115 = some cf115
  h117 : tbl 117 = some cf117
  h121 : tbl 121 = some cf121
  h122 : tbl 122 = some cf122
  h123 : tbl 123 = some cf123
  h124 : tbl 124 = some cf124
  h125 : tbl 125 = some cf125
  h126 : tbl 126 = some cf126
  h127 : tbl 127 = some cf127
  h128 : tbl 128 = some cf128
  h129 : tbl 129 = some cf129
  h130 : tbl 130 = some cf130
  h131 : tbl 131 = some cf131
  h143 : tbl 143 = some cf143
  h145 : tbl 145 = some cf145
  h146 : tbl 146 = some cf146
  h147 : tbl 147 = some cf147
  h148 : tbl 148 = some cf148
  h149 : tbl 149 = some cf149
  h150 : tbl 150 = some cf150
  h151 : tbl 151 = some cf151
  h152 : tbl 152 = some cf152
theorem FnT.tb (F : FnT tbl) : TbT tbl := ⟨F.h25, F.h40, F.h41, F.h44, F.h45, F.h46, F.h47, F.h48, F.h49, F.h50, F.h51, F.h75, F.h76, F.h77, F.h81, F.h84, F.h85, F.h86, F.h87, F.h88, F.h91, F.h96, F.h99, F.h100, F.h103, F.h115, F.h117, F.h121, F.h122, F.h123, F.h124, F.h130, F.h131, F.h143, F.h145⟩
theorem FnT.dc (F : FnT tbl) : DcT tbl := ⟨F.h117, F.h121, F.h124, F.h125, F.h128, F.h129, F.h143, F.h145, F.h146⟩
theorem FnT.pt (F : FnT tbl) : PutT tbl := ⟨F.dc, F.h77, F.h123, F.h126, F.h147, F.h148, F.h149, F.h150, F.h151⟩

/-- A heap that has a table. -/
structure HasT (G : Hp) (tn : Int) (T : Tb) : Prop where
  may : mayV ⟨6, tn⟩ = true
  obj : ∃ o, G.objs tn = some o ∧ o.kind = 6 ∧ o.slots = T.slots
  ok : TbOk T

section
variable {M : Mem} {hp : Pos} {P : Pos → Prop} {G : Hp} {tn : Int} {T : Tb}

theorem slots_ok (F : FnT tbl) (hH : HeapIs M hp P G) (hT : HasT G tn T) :
    CallW tbl 100 (.cons (.ptr hp 0) (.cons (VlA ⟨6, tn⟩) .nil)) M fun r M' => ∃ sv, r = .ret (.tuple (.cons sv (.cons (.bool true) .nil))) ∧ CutSl M' sv 2 (VlL T.slots) ∧ But (fun _ => False) M M' := by
  refine CallW.wf fun hw => ?_
  refine CallW.intro F.h100 rfl (fr := .nod (.val .leaf (.ptr hp 0) .leaf) (.val .leaf (VlA ⟨6, tn⟩) .leaf)) rfl ?_
  have b1 := But.new (S := fun _ => False) hw (.cells [.int 3 6, .int 3 tn] false)
  have w1 := hw.new (.cells [.int 3 6, .int 3 tn] false)
  have x1 : (M.new (.cells [.int 3 6, .int 3 tn] false)).get M.next = some (.cells [.int 3 6, .int 3 tn] false) := by simp only [go_sem, reduceCtorEq, Nat.reduceEqDiff, Nat.reduceAdd, Nat.reduceMul, Nat.reduceLeDiff, Nat.reduceSub, Nat.reduceLT, Nat.reduceBEq, Nat.reduceBNe, Int.reduceBEq, Int.reduceBNe, Int.reduceLT, Int.reduceLE, Int.reduceAdd, Int.reduceEq, Int.reduceNe, beq_self_eq_true, bne_self_eq_false, decide_true, decide_false, Bool.not_true, Bool.not_false, Bool.false_eq_true, false_and, and_false, not_true_eq_false, not_false_eq_true]
  have g1 : ((6 : Int) != 6) = false := rfl
  simp only [go_sem, reduceCtorEq, Nat.reduceEqDiff, Nat.reduceAdd, Nat.reduceMul, Nat.reduceLeDiff, Nat.reduceSub, Nat.reduceLT, Nat.reduceBEq, Nat.reduceBNe, Int.reduceBEq, Int.reduceBNe, Int.reduceLT, Int.reduceLE, Int.reduceAdd, Int.reduceEq, Int.reduceNe, beq_self_eq_true, bne_self_eq_false, decide_true, decide_false, Bool.not_true, Bool.not_false, Bool.false_eq_true, false_and, and_false, not_true_eq_false, not_false_eq_true, cf100, VlA, g1]
  refine (ref_spec F.h77 F.h117 F.h143 (v := ⟨6, tn⟩)).use ?_
  rintro r M2 hw2 ⟨rfl, b2⟩
  have hr : refV ⟨6, tn⟩ = true := by simp [refV, hT.may]
  have x2 := b2.get _ _ id x1
  rw [hr]
  simp only [go_sem, reduceCtorEq, Nat.reduceEqDiff, Nat.reduceAdd, Nat.reduceMul, Nat.reduceLeDiff, Nat.reduceSub, Nat.reduceLT, Nat.reduceBEq, Nat.reduceBNe, Int.reduceBEq, Int.reduceBNe, Int.reduceLT, Int.reduceLE, Int.reduceAdd, Int.reduceEq, Int.reduceNe, beq_self_eq_true, bne_self_eq_false, decide_true, decide_false, Bool.not_true, Bool.not_false, Bool.false_eq_true, false_and, and_false, not_true_eq_false, not_false_eq_true, x2]
  have hH2 := hH.quiet (b1.trans b2)
  obtain ⟨o, ho, hk, hs⟩ := hT.obj
  have hl := hT.ok.len
  refine (obj_some F.h25 F.h75 F.h76 hH2 ho (by rw [hs]; simp only [most]; omega)).use ?_
  rintro r M3 hw3 ⟨sv, rfl, hfr, b3⟩
  have hcs := hfr.cell
  obtain ⟨own', _, hso⟩ := hfr (fun _ => none) (0, 0) (fun p h => absurd rfl h)
  have hcut := hso.cutSl
  rw [hs] at hcut
  have g3 : (o.kind != 6) = false := by simp [hk]
  have b4 := But.fill hw3 (.cells [.int 3 0, .int 3 0, .nilslice, .str 0 0, .int 3 0] false) (.cells [.int 3 o.kind, .int 3 o.count, sv, .str o.tl o.tn, .int 3 o.mark] false)
  have w4 := hw3.fill (.cells [.int 3 0, .int 3 0, .nilslice, .str 0 0, .int 3 0] false) (.cells [.int 3 o.kind, .int 3 o.count, sv, .str o.tl o.tn, .int 3 o.mark] false)
  have x4 : ((M3.new (.cells [.int 3 0, .int 3 0, .nilslice, .str 0 0, .int 3 0] false)).put M3.next (.cells [.int 3 o.kind, .int 3 o.count, sv, .str o.tl o.tn, .int 3 o.mark] false)).get M3.next = some (.cells [.int 3 o.kind, .int 3 o.count, sv, .str o.tl o.tn, .int 3 o.mark] false) := by simp [Mem.put]
  have hcut4 := hcut.quiet b4
  simp only [go_sem, reduceCtorEq, Nat.reduceEqDiff, Nat.reduceAdd, Nat.reduceMul, Nat.reduceLeDiff, Nat.reduceSub, Nat.reduceLT, Nat.reduceBEq, Nat.reduceBNe, Int.reduceBEq, Int.reduceBNe, Int.reduceLT, Int.reduceLE, Int.reduceAdd, Int.reduceEq, Int.reduceNe, beq_self_eq_true, bne_self_eq_false, decide_true, decide_false, Bool.not_true, Bool.not_false, Bool.false_eq_true, false_and, and_false, not_true_eq_false, not_false_eq_true, ObA, hcs, g3]
  generalize hM4 : (M3.new (.cells [.int 3 0, .int 3 0, .nilslice, .str 0 0, .int 3 0] false)).put M3.next (.cells [.int 3 o.kind, .int 3 o.count, sv, .str o.tl o.tn, .int 3 o.mark] false) = M4 at *
  refine (check_ok F.dc F.h131 hcut4 hT.ok).use ?_
  rintro r M5 hw5 ⟨rfl, b5⟩
  have x5 := b5.get _ _ id x4
  simp only [go_sem, reduceCtorEq, Nat.reduceEqDiff, Nat.reduceAdd, Nat.reduceMul, Nat.reduceLeDiff, Nat.reduceSub, Nat.reduceLT, Nat.reduceBEq, Nat.reduceBNe, Int.reduceBEq, Int.reduceBNe, Int.reduceLT, Int.reduceLE, Int.reduceAdd, Int.reduceEq, Int.reduceNe, beq_self_eq_true, bne_self_eq_false, decide_true, decide_false, Bool.not_true, Bool.not_false, Bool.false_eq_true, false_and, and_false, not_true_eq_false, not_false_eq_true, x5]
  exact ⟨sv, rfl, hcut4.quiet b5, ((b1.trans b2).trans b3).trans (b4.trans b5)⟩

theorem told91_ok (F : FnT tbl) {g : Nat} {caps : AV} {rv : Vl} {e : Int} (hH : HeapIs M hp P G) (hT : HasT G tn T)
    (hcall : ∀ sv M1, M1.wf → But (fun _ => False) M M1 → CutSl M1 sv 2 (VlL T.slots) → CallW tbl g (.cons sv caps) M1 fun r M2 => r = .ret (.tuple (.cons (VlA rv) (.cons (.int 3 e) .nil))) ∧ But (fun _ => False) M1 M2) :
    CallW tbl 91 (.cons (.ptr hp 0) (.cons (VlA ⟨6, tn⟩) (.cons (.func (.func g) .nil caps) .nil))) M fun r M' => r = .ret (.tuple (.cons (VlA rv) (.cons (.int 3 e) .nil))) ∧ But (fun _ => False) M M' := by
  refine CallW.wf fun hw => ?_
  refine CallW.intro F.h91 rfl (fr := .nod (.val (.val .leaf (.func (.func g) .nil caps) .leaf) (.ptr hp 0) .leaf) (.val .leaf (VlA ⟨6, tn⟩) .leaf)) rfl ?_
  have b1 := But.new (S := fun _ => False) hw (.cells [.int 3 6, .int 3 tn] false)
  have w1 := hw.new (.cells [.int 3 6, .int 3 tn] false)
  have b2 := But.new (S := fun _ => False) w1 (.cells [.int 3 0, .int 3 0] false)
  have x2 : ((M.new (.cells [.int 3 6, .int 3 tn] false)).new (.cells [.int 3 0, .int 3 0] false)).get M.next.succ = some (.cells [.int 3 0, .int 3 0] false) := by simp only [go_sem, reduceCtorEq, Nat.reduceEqDiff, Nat.reduceAdd, Nat.reduceMul, Nat.reduceLeDiff, Nat.reduceSub, Nat.reduceLT, Nat.reduceBEq, Nat.reduceBNe, Int.reduceBEq, Int.reduceBNe, Int.reduceLT, Int.reduceLE, Int.reduceAdd, Int.reduceEq, Int.reduceNe, beq_self_eq_true, bne_self_eq_false, decide_true, decide_false, Bool.not_true, Bool.not_false, Bool.false_eq_true, false_and, and_false, not_true_eq_false, not_false_eq_true]
  simp only [go_sem, reduceCtorEq, Nat.reduceEqDiff, Nat.reduceAdd, Nat.reduceMul, Nat.reduceLeDiff, Nat.reduceSub, Nat.reduceLT, Nat.reduceBEq, Nat.reduceBNe, Int.reduceBEq, Int.reduceBNe, Int.reduceLT, Int.reduceLE, Int.reduceAdd, Int.reduceEq, Int.reduceNe, beq_self_eq_true, bne_self_eq_false, decide_true, decide_false, Bool.not_true, Bool.not_false, Bool.false_eq_true, false_and, and_false, not_true_eq_false, not_false_eq_true, cf91, VlA]
  refine (slots_ok F (hH.quiet (b1.trans b2)) hT).use ?_
  rintro r M2 hw2 ⟨sv, rfl, hcut, b3⟩
  have x3 := b3.get _ _ id x2
  simp only [go_sem, reduceCtorEq, Nat.reduceEqDiff, Nat.reduceAdd, Nat.reduceMul, Nat.reduceLeDiff, Nat.reduceSub, Nat.reduceLT, Nat.reduceBEq, Nat.reduceBNe, Int.reduceBEq, Int.reduceBNe, Int.reduceLT, Int.reduceLE, Int.reduceAdd, Int.reduceEq, Int.reduceNe, beq_self_eq_true, bne_self_eq_false, decide_true, decide_false, Bool.not_true, Bool.not_false, Bool.false_eq_true, false_and, and_false, not_true_eq_false, not_false_eq_true]
  refine (hcall sv M2 hw2 ((b1.trans b2).trans b3) hcut).use ?_
  rintro r M3 hw3 ⟨rfl, b4⟩
  have x4 := b4.get _ _ id x3
  obtain ⟨rk, rn⟩ := rv
  simp only [go_sem, reduceCtorEq, Nat.reduceEqDiff, Nat.reduceAdd, Nat.reduceMul, Nat.reduceLeDiff, Nat.reduceSub, Nat.reduceLT, Nat.reduceBEq, Nat.reduceBNe, Int.reduceBEq, Int.reduceBNe, Int.reduceLT, Int.reduceLE, Int.reduceAdd, Int.reduceEq, Int.reduceNe, beq_self_eq_true, bne_self_eq_false, decide_true, decide_false, Bool.not_true, Bool.not_false, Bool.false_eq_true, false_and, and_false, not_true_eq_false, not_false_eq_true, x4, VlA]
  have bb := (((b1.trans b2).trans b3).trans b4)
  have bf := But.fresh (S := fun _ => False) hw ((bb.any _).trans (But.put (S := fun p => False ∨ M.next.num ≤ p.num) (p := M.next.succ) _ (.inr (by rw [Pos.num_succ]; omega)) (.cells [.int 3 rk, .int 3 rn] false)))
  first | exact bf | exact ⟨rfl, bf⟩
end
end Go.Proofs.Ythpnhdopheofcaa

end
section
namespace Go.Proofs.Ythpnhdopheofcaa
open Go.Dx
variable {tbl : Nat → Option CFunc}

section
variable {M : Mem} {hp : Pos} {P : Pos → Prop} {G : Hp} {tn : Int} {T : Tb}

theorem get_ok (F : FnT tbl) (k : Vl) (hH : HeapIs M hp P G) (hT : HasT G tn T) :
    CallW tbl 45 (.cons (.ptr hp 0) (.cons (VlA ⟨6, tn⟩) (.cons (VlA k) .nil))) M fun r M' => r = .ret (.tuple (.cons (VlA (T.get k)) (.cons (.int 3 0) .nil))) ∧ But (fun _ => False) M M' := by
  refine CallW.wf fun hw => ?_
  obtain ⟨kk, kn⟩ := k
  refine CallW.intro F.h45 rfl (fr := .nod (.val (.val .leaf (VlA ⟨kk, kn⟩) .leaf) (.ptr hp 0) .leaf) (.val .leaf (VlA ⟨6, tn⟩) .leaf)) rfl ?_
  have b1 := But.new (S := fun _ => False) hw (.cells [.int 3 6, .int 3 tn] false)
  have w1 := hw.new (.cells [.int 3 6, .int 3 tn] false)
  have b2 := But.new (S := fun _ => False) w1 (.cells [.int 3 kk, .int 3 kn] false)
  have w2 := w1.new (.cells [.int 3 kk, .int 3 kn] false)
  have b3 := But.new (S := fun _ => False) w2 (.cells [.int 3 0, .int 3 0] false)
  have x2 : (((M.new (.cells [.int 3 6, .int 3 tn] false)).new (.cells [.int 3 kk, .int 3 kn] false))).get M.next.succ = some (.cells [.int 3 kk, .int 3 kn] false) := by simp only [go_sem, reduceCtorEq, Nat.reduceEqDiff, Nat.reduceAdd, Nat.reduceMul, Nat.reduceLeDiff, Nat.reduceSub, Nat.reduceLT, Nat.reduceBEq, Nat.reduceBNe, Int.reduceBEq, Int.reduceBNe, Int.reduceLT, Int.reduceLE, Int.reduceAdd, Int.reduceEq, Int.reduceNe, beq_self_eq_true, bne_self_eq_false, decide_true, decide_false, Bool.not_true, Bool.not_false, Bool.false_eq_true, false_and, and_false, not_true_eq_false, not_false_eq_true]
  have y3 := b3.get _ _ id x2
  have x3 : (((M.new (.cells [.int 3 6, .int 3 tn] false)).new (.cells [.int 3 kk, .int 3 kn] false)).new (.cells [.int 3 0, .int 3 0] false)).get M.next.succ.succ = some (.cells [.int 3 0, .int 3 0] false) := by simp only [go_sem, reduceCtorEq, Nat.reduceEqDiff, Nat.reduceAdd, Nat.reduceMul, Nat.reduceLeDiff, Nat.reduceSub, Nat.reduceLT, Nat.reduceBEq, Nat.reduceBNe, Int.reduceBEq, Int.reduceBNe, Int.reduceLT, Int.reduceLE, Int.reduceAdd, Int.reduceEq, Int.reduceNe, beq_self_eq_true, bne_self_eq_false, decide_true, decide_false, Bool.not_true, Bool.not_false, Bool.false_eq_true, false_and, and_false, not_true_eq_false, not_false_eq_true]
  simp only [go_sem, reduceCtorEq, Nat.reduceEqDiff, Nat.reduceAdd, Nat.reduceMul, Nat.reduceLeDiff, Nat.reduceSub, Nat.reduceLT, Nat.reduceBEq, Nat.reduceBNe, Int.reduceBEq, Int.reduceBNe, Int.reduceLT, Int.reduceLE, Int.reduceAdd, Int.reduceEq, Int.reduceNe, beq_self_eq_true, bne_self_eq_false, decide_true, decide_false, Bool.not_true, Bool.not_false, Bool.false_eq_true, false_and, and_false, not_true_eq_false, not_false_eq_true, cf45, VlA]
  refine (told91_ok F (rv := T.get ⟨kk, kn⟩) (e := 0) (hH.quiet ((b1.trans b2).trans b3)) hT ?_).use ?_
  · intro sv M1 h1 b4 hcut
    refine CallW.intro F.h92 rfl (fr := .nod (.val .leaf sv .leaf) (.val .leaf (.ptr M.next.succ 0) .leaf)) rfl ?_
    have b5 := But.new (S := fun _ => False) h1 (.cells [.int 3 0, .int 3 0] false)
    have x5 : (M1.new (.cells [.int 3 0, .int 3 0] false)).get M1.next = some (.cells [.int 3 0, .int 3 0] false) := by simp only [go_sem, reduceCtorEq, Nat.reduceEqDiff, Nat.reduceAdd, Nat.reduceMul, Nat.reduceLeDiff, Nat.reduceSub, Nat.reduceLT, Nat.reduceBEq, Nat.reduceBNe, Int.reduceBEq, Int.reduceBNe, Int.reduceLT, Int.reduceLE, Int.reduceAdd, Int.reduceEq, Int.reduceNe, beq_self_eq_true, bne_self_eq_false, decide_true, decide_false, Bool.not_true, Bool.not_false, Bool.false_eq_true, false_and, and_false, not_true_eq_false, not_false_eq_true]
    have y5 := b4.get _ _ id y3
    have ne5 := h1.ne y5
    simp only [go_sem, reduceCtorEq, Nat.reduceEqDiff, Nat.reduceAdd, Nat.reduceMul, Nat.reduceLeDiff, Nat.reduceSub, Nat.reduceLT, Nat.reduceBEq, Nat.reduceBNe, Int.reduceBEq, Int.reduceBNe, Int.reduceLT, Int.reduceLE, Int.reduceAdd, Int.reduceEq, Int.reduceNe, beq_self_eq_true, bne_self_eq_false, decide_true, decide_false, Bool.not_true, Bool.not_false, Bool.false_eq_true, false_and, and_false, not_true_eq_false, not_false_eq_true, cf92, y5, ne5]
    refine (dget_ok F.dc F.h93 (k := ⟨kk, kn⟩) (hcut.quiet b5) hT.ok).use ?_
    rintro r M6 hw6 ⟨rfl, b6⟩
    have x6 := b6.get _ _ id x5
    generalize T.get ⟨kk, kn⟩ = rv
    obtain ⟨rk, rn⟩ := rv
    simp only [go_sem, reduceCtorEq, Nat.reduceEqDiff, Nat.reduceAdd, Nat.reduceMul, Nat.reduceLeDiff, Nat.reduceSub, Nat.reduceLT, Nat.reduceBEq, Nat.reduceBNe, Int.reduceBEq, Int.reduceBNe, Int.reduceLT, Int.reduceLE, Int.reduceAdd, Int.reduceEq, Int.reduceNe, beq_self_eq_true, bne_self_eq_false, decide_true, decide_false, Bool.not_true, Bool.not_false, Bool.false_eq_true, false_and, and_false, not_true_eq_false, not_false_eq_true, x6, VlA]
    have bf := But.fresh (S := fun _ => False) h1 (((b5.trans b6).any _).trans (But.put (S := fun p => False ∨ M1.next.num ≤ p.num) (p := M1.next) _ (.inr (Nat.le_refl _)) (.cells [.int 3 rk, .int 3 rn] false)))
    first | exact bf | exact ⟨rfl, bf⟩
  rintro r M4 hw4 ⟨rfl, b4⟩
  have x4 := b4.get _ _ id x3
  generalize T.get ⟨kk, kn⟩ = rv
  obtain ⟨rk, rn⟩ := rv
  simp only [go_sem, reduceCtorEq, Nat.reduceEqDiff, Nat.reduceAdd, Nat.reduceMul, Nat.reduceLeDiff, Nat.reduceSub, Nat.reduceLT, Nat.reduceBEq, Nat.reduceBNe, Int.reduceBEq, Int.reduceBNe, Int.reduceLT, Int.reduceLE, Int.reduceAdd, Int.reduceEq, Int.reduceNe, beq_self_eq_true, bne_self_eq_false, decide_true, decide_false, Bool.not_true, Bool.not_false, Bool.false_eq_true, false_and, and_false, not_true_eq_false, not_false_eq_true, VlA, x4]
  have bb := (((b1.trans b2).trans b3).trans b4)
  have bf := But.fresh (S := fun _ => False) hw ((bb.any _).trans (But.put (S := fun p => False ∨ M.next.num ≤ p.num) (p := M.next.succ.succ) _ (.inr (by rw [Pos.num_succ, Pos.num_succ]; omega)) (.cells [.int 3 rk, .int 3 rn] false)))
  first | exact bf | exact ⟨rfl, bf⟩

theorem next_ok (F : FnT tbl) {k : Vl} {a b : Nat} (hH : HeapIs M hp P G) (hT : HasT G tn T) (hk : mayV k = true) (hk0 : k.k ≠ 0) (hst : T.start k = some (a, b)) :
    CallW tbl 46 (.cons (.ptr hp 0) (.cons (VlA ⟨6, tn⟩) (.cons (VlA k) .nil))) M fun r M' => r = .ret (.tuple (.cons (VlA (T.nextV a b)) (.cons (.int 3 0) .nil))) ∧ But (fun _ => False) M M' := by
  refine CallW.wf fun hw => ?_
  obtain ⟨kk, kn⟩ := k
  refine CallW.intro F.h46 rfl (fr := .nod (.val (.val .leaf (VlA ⟨kk, kn⟩) .leaf) (.ptr hp 0) .leaf) (.val .leaf (VlA ⟨6, tn⟩) .leaf)) rfl ?_
  have b1 := But.new (S := fun _ => False) hw (.cells [.int 3 6, .int 3 tn] false)
  have w1 := hw.new (.cells [.int 3 6, .int 3 tn] false)
  have b2 := But.new (S := fun _ => False) w1 (.cells [.int 3 kk, .int 3 kn] false)
  have w2 := w1.new (.cells [.int 3 kk, .int 3 kn] false)
  have b3 := But.new (S := fun _ => False) w2 (.cells [.int 3 0, .int 3 0] false)
  have x2 : (((M.new (.cells [.int 3 6, .int 3 tn] false)).new (.cells [.int 3 kk, .int 3 kn] false))).get M.next.succ = some (.cells [.int 3 kk, .int 3 kn] false) := by simp only [go_sem, reduceCtorEq, Nat.reduceEqDiff, Nat.reduceAdd, Nat.reduceMul, Nat.reduceLeDiff, Nat.reduceSub, Nat.reduceLT, Nat.reduceBEq, Nat.reduceBNe, Int.reduceBEq, Int.reduceBNe, Int.reduceLT, Int.reduceLE, Int.reduceAdd, Int.reduceEq, Int.reduceNe, beq_self_eq_true, bne_self_eq_false, decide_true, decide_false, Bool.not_true, Bool.not_false, Bool.false_eq_true, false_and, and_false, not_true_eq_false, not_false_eq_true]
  have y3 := b3.get _ _ id x2
  have x3 : (((M.new (.cells [.int 3 6, .int 3 tn] false)).new (.cells [.int 3 kk, .int 3 kn] false)).new (.cells [.int 3 0, .int 3 0] false)).get M.next.succ.succ = some (.cells [.int 3 0, .int 3 0] false) := by simp only [go_sem, reduceCtorEq, Nat.reduceEqDiff, Nat.reduceAdd, Nat.reduceMul, Nat.reduceLeDiff, Nat.reduceSub, Nat.reduceLT, Nat.reduceBEq, Nat.reduceBNe, Int.reduceBEq, Int.reduceBNe, Int.reduceLT, Int.reduceLE, Int.reduceAdd, Int.reduceEq, Int.reduceNe, beq_self_eq_true, bne_self_eq_false, decide_true, decide_false, Bool.not_true, Bool.not_false, Bool.false_eq_true, false_and, and_false, not_true_eq_false, not_false_eq_true]
  simp only [go_sem, reduceCtorEq, Nat.reduceEqDiff, Nat.reduceAdd, Nat.reduceMul, Nat.reduceLeDiff, Nat.reduceSub, Nat.reduceLT, Nat.reduceBEq, Nat.reduceBNe, Int.reduceBEq, Int.reduceBNe, Int.reduceLT, Int.reduceLE, Int.reduceAdd, Int.reduceEq, Int.reduceNe, beq_self_eq_true, bne_self_eq_false, decide_true, decide_false, Bool.not_true, Bool.not_false, Bool.false_eq_true, false_and, and_false, not_true_eq_false, not_false_eq_true, cf46, VlA]
  refine (told91_ok F (rv := T.nextV a b) (e := 0) (hH.quiet ((b1.trans b2).trans b3)) hT ?_).use ?_
  · intro sv M1 h1 b4 hcut
    refine CallW.intro F.h94 rfl (fr := .nod (.val .leaf sv .leaf) (.val .leaf (.ptr M.next.succ 0) .leaf)) rfl ?_
    have b5 := But.new (S := fun _ => False) h1 (.cells [.int 3 0, .int 3 0] false)
    have x5 : (M1.new (.cells [.int 3 0, .int 3 0] false)).get M1.next = some (.cells [.int 3 0, .int 3 0] false) := by simp only [go_sem, reduceCtorEq, Nat.reduceEqDiff, Nat.reduceAdd, Nat.reduceMul, Nat.reduceLeDiff, Nat.reduceSub, Nat.reduceLT, Nat.reduceBEq, Nat.reduceBNe, Int.reduceBEq, Int.reduceBNe, Int.reduceLT, Int.reduceLE, Int.reduceAdd, Int.reduceEq, Int.reduceNe, beq_self_eq_true, bne_self_eq_false, decide_true, decide_false, Bool.not_true, Bool.not_false, Bool.false_eq_true, false_and, and_false, not_true_eq_false, not_false_eq_true]
    have y5 := b4.get _ _ id y3
    have ne5 := h1.ne y5
    simp only [go_sem, reduceCtorEq, Nat.reduceEqDiff, Nat.reduceAdd, Nat.reduceMul, Nat.reduceLeDiff, Nat.reduceSub, Nat.reduceLT, Nat.reduceBEq, Nat.reduceBNe, Int.reduceBEq, Int.reduceBNe, Int.reduceLT, Int.reduceLE, Int.reduceAdd, Int.reduceEq, Int.reduceNe, beq_self_eq_true, bne_self_eq_false, decide_true, decide_false, Bool.not_true, Bool.not_false, Bool.false_eq_true, false_and, and_false, not_true_eq_false, not_false_eq_true, cf94, y5, ne5]
    refine (dnext_ok F.dc F.h95 F.h123 (k := ⟨kk, kn⟩) (hcut.quiet b5) hT.ok hk hk0 hst).use ?_
    rintro r M6 hw6 ⟨rfl, b6⟩
    have x6 := b6.get _ _ id x5
    generalize T.nextV a b = rv
    obtain ⟨rk, rn⟩ := rv
    simp only [go_sem, reduceCtorEq, Nat.reduceEqDiff, Nat.reduceAdd, Nat.reduceMul, Nat.reduceLeDiff, Nat.reduceSub, Nat.reduceLT, Nat.reduceBEq, Nat.reduceBNe, Int.reduceBEq, Int.reduceBNe, Int.reduceLT, Int.reduceLE, Int.reduceAdd, Int.reduceEq, Int.reduceNe, beq_self_eq_true, bne_self_eq_false, decide_true, decide_false, Bool.not_true, Bool.not_false, Bool.false_eq_true, false_and, and_false, not_true_eq_false, not_false_eq_true, x6, VlA]
    have bf := But.fresh (S := fun _ => False) h1 (((b5.trans b6).any _).trans (But.put (S := fun p => False ∨ M1.next.num ≤ p.num) (p := M1.next) _ (.inr (Nat.le_refl _)) (.cells [.int 3 rk, .int 3 rn] false)))
    first | exact bf | exact ⟨rfl, bf⟩
  rintro r M4 hw4 ⟨rfl, b4⟩
  have x4 := b4.get _ _ id x3
  generalize T.nextV a b = rv
  obtain ⟨rk, rn⟩ := rv
  simp only [go_sem, reduceCtorEq, Nat.reduceEqDiff, Nat.reduceAdd, Nat.reduceMul, Nat.reduceLeDiff, Nat.reduceSub, Nat.reduceLT, Nat.reduceBEq, Nat.reduceBNe, Int.reduceBEq, Int.reduceBNe, Int.reduceLT, Int.reduceLE, Int.reduceAdd, Int.reduceEq, Int.reduceNe, beq_self_eq_true, bne_self_eq_false, decide_true, decide_false, Bool.not_true, Bool.not_false, Bool.false_eq_true, false_and, and_false, not_true_eq_false, not_false_eq_true, VlA, x4]
  have bb := (((b1.trans b2).trans b3).trans b4)
  have bf := But.fresh (S := fun _ => False) hw ((bb.any _).trans (But.put (S := fun p => False ∨ M.next.num ≤ p.num) (p := M.next.succ.succ) _ (.inr (by rw [Pos.num_succ, Pos.num_succ]; omega)) (.cells [.int 3 rk, .int 3 rn] false)))
  first | exact bf | exact ⟨rfl, bf⟩

theorem len_ok (F : FnT tbl) (hH : HeapIs M hp P G) (hT : HasT G tn T) :
    CallW tbl 47 (.cons (.ptr hp 0) (.cons (VlA ⟨6, tn⟩) .nil)) M fun r M' => r = .ret (.tuple (.cons (.int 3 T.arr.length) (.cons (.int 3 0) .nil))) ∧ But (fun _ => False) M M' := by
  refine CallW.wf fun hw => ?_
  refine CallW.intro F.h47 rfl (fr := .nod (.val .leaf (.ptr hp 0) .leaf) (.val .leaf (VlA ⟨6, tn⟩) .leaf)) rfl ?_
  have b1 := But.new (S := fun _ => False) hw (.cells [.int 3 6, .int 3 tn] false)
  have w1 := hw.new (.cells [.int 3 6, .int 3 tn] false)
  simp only [go_sem, reduceCtorEq, Nat.reduceEqDiff, Nat.reduceAdd, Nat.reduceMul, Nat.reduceLeDiff, Nat.reduceSub, Nat.reduceLT, Nat.reduceBEq, Nat.reduceBNe, Int.reduceBEq, Int.reduceBNe, Int.reduceLT, Int.reduceLE, Int.reduceAdd, Int.reduceEq, Int.reduceNe, beq_self_eq_true, bne_self_eq_false, decide_true, decide_false, Bool.not_true, Bool.not_false, Bool.false_eq_true, false_and, and_false, not_true_eq_false, not_false_eq_true, cf47, VlA]
  have told : CallW tbl 96 (.cons (.ptr hp 0) (.cons (VlA ⟨6, tn⟩) (.cons (.func (.func 97) .nil .nil) .nil))) (M.new (.cells [.int 3 6, .int 3 tn] false)) fun r M' => r = .ret (.tuple (.cons (.int 3 T.arr.length) (.cons (.int 3 0) .nil))) ∧ But (fun _ => False) (M.new (.cells [.int 3 6, .int 3 tn] false)) M' := by
    have hH1 := hH.quiet b1
    generalize M.new (.cells [.int 3 6, .int 3 tn] false) = M1 at *
    refine CallW.intro F.h96 rfl (fr := .nod (.val (.val .leaf (.func (.func 97) .nil .nil) .leaf) (.ptr hp 0) .leaf) (.val .leaf (VlA ⟨6, tn⟩) .leaf)) rfl ?_
    have b2 := But.new (S := fun _ => False) w1 (.cells [.int 3 6, .int 3 tn] false)
    simp only [go_sem, reduceCtorEq, Nat.reduceEqDiff, Nat.reduceAdd, Nat.reduceMul, Nat.reduceLeDiff, Nat.reduceSub, Nat.reduceLT, Nat.reduceBEq, Nat.reduceBNe, Int.reduceBEq, Int.reduceBNe, Int.reduceLT, Int.reduceLE, Int.reduceAdd, Int.reduceEq, Int.reduceNe, beq_self_eq_true, bne_self_eq_false, decide_true, decide_false, Bool.not_true, Bool.not_false, Bool.false_eq_true, false_and, and_false, not_true_eq_false, not_false_eq_true, cf96, VlA]
    refine (slots_ok F (hH1.quiet b2) hT).use ?_
    rintro r M2 hw2 ⟨sv, rfl, hcut, b3⟩
    simp only [go_sem, reduceCtorEq, Nat.reduceEqDiff, Nat.reduceAdd, Nat.reduceMul, Nat.reduceLeDiff, Nat.reduceSub, Nat.reduceLT, Nat.reduceBEq, Nat.reduceBNe, Int.reduceBEq, Int.reduceBNe, Int.reduceLT, Int.reduceLE, Int.reduceAdd, Int.reduceEq, Int.reduceNe, beq_self_eq_true, bne_self_eq_false, decide_true, decide_false, Bool.not_true, Bool.not_false, Bool.false_eq_true, false_and, and_false, not_true_eq_false, not_false_eq_true]
    have hc : CallW tbl 97 (.cons sv .nil) M2 fun r M3 => r = .ret (.tuple (.cons (.int 3 T.arr.length) (.cons (.int 3 0) .nil))) ∧ But (fun _ => False) M2 M3 := by
      refine CallW.intro F.h97 rfl (fr := .nod (.val .leaf sv .leaf) .leaf) rfl ?_
      simp only [go_sem, reduceCtorEq, Nat.reduceEqDiff, Nat.reduceAdd, Nat.reduceMul, Nat.reduceLeDiff, Nat.reduceSub, Nat.reduceLT, Nat.reduceBEq, Nat.reduceBNe, Int.reduceBEq, Int.reduceBNe, Int.reduceLT, Int.reduceLE, Int.reduceAdd, Int.reduceEq, Int.reduceNe, beq_self_eq_true, bne_self_eq_false, decide_true, decide_false, Bool.not_true, Bool.not_false, Bool.false_eq_true, false_and, and_false, not_true_eq_false, not_false_eq_true, cf97]
      refine (dlen_ok F.dc F.h98 hcut hT.ok).use ?_
      rintro r M4 hw4 ⟨rfl, b4⟩
      simp only [go_sem, reduceCtorEq, Nat.reduceEqDiff, Nat.reduceAdd, Nat.reduceMul, Nat.reduceLeDiff, Nat.reduceSub, Nat.reduceLT, Nat.reduceBEq, Nat.reduceBNe, Int.reduceBEq, Int.reduceBNe, Int.reduceLT, Int.reduceLE, Int.reduceAdd, Int.reduceEq, Int.reduceNe, beq_self_eq_true, bne_self_eq_false, decide_true, decide_false, Bool.not_true, Bool.not_false, Bool.false_eq_true, false_and, and_false, not_true_eq_false, not_false_eq_true]
      first | exact b4 | exact ⟨rfl, b4⟩
    refine hc.use ?_
    rintro r M3 hw3 ⟨rfl, b4⟩
    simp only [go_sem, reduceCtorEq, Nat.reduceEqDiff, Nat.reduceAdd, Nat.reduceMul, Nat.reduceLeDiff, Nat.reduceSub, Nat.reduceLT, Nat.reduceBEq, Nat.reduceBNe, Int.reduceBEq, Int.reduceBNe, Int.reduceLT, Int.reduceLE, Int.reduceAdd, Int.reduceEq, Int.reduceNe, beq_self_eq_true, bne_self_eq_false, decide_true, decide_false, Bool.not_true, Bool.not_false, Bool.false_eq_true, false_and, and_false, not_true_eq_false, not_false_eq_true]
    first | exact (b2.trans b3).trans b4 | exact ⟨rfl, (b2.trans b3).trans b4⟩
  refine told.use ?_
  rintro r M3 hw3 ⟨rfl, b4⟩
  simp only [go_sem, reduceCtorEq, Nat.reduceEqDiff, Nat.reduceAdd, Nat.reduceMul, Nat.reduceLeDiff, Nat.reduceSub, Nat.reduceLT, Nat.reduceBEq, Nat.reduceBNe, Int.reduceBEq, Int.reduceBNe, Int.reduceLT, Int.reduceLE, Int.reduceAdd, Int.reduceEq, Int.reduceNe, beq_self_eq_true, bne_self_eq_false, decide_true, decide_false, Bool.not_true, Bool.not_false, Bool.false_eq_true, false_and, and_false, not_true_eq_false, not_false_eq_true]
  first | exact b1.trans b4 | exact ⟨rfl, b1.trans b4⟩
end

/-- A heap after a table's slots are laid. -/
def layG (G : Hp) (tn : Int) (l : List Vl) : Hp := { G with objs := upd G.objs tn ((G.objs tn).map fun o => { o with slots := l }) }

section
variable {M : Mem} {hp : Pos} {P : Pos → Prop} {G : Hp} {tn : Int} {T : Tb}

theorem tput_ok (F : FnT tbl) (k v : Vl) (hH : HeapIs M hp P G) (hT : HasT G tn T) (hl : T.slots.length ≤ 2 ^ 19) (hra : ∀ x ∈ T.arr, refV x = false) (hr : ∀ x ∈ T.prs, refV x.1 = false ∧ refV x.2 = false) (hkr : refV k = false) (hk : keyV k = true) (hkm : mayV k = true) (hvm : mayV v = true) (hv0 : v.k ≠ 0)
    (hth : ∀ x ∈ (T.put k v).slots, thereV G x = true) :
    CallW tbl 44 (.cons (.ptr hp 0) (.cons (VlA ⟨6, tn⟩) (.cons (VlA k) (.cons (VlA v) .nil)))) M fun r M' => r = .ret (.int 3 0) ∧ HeapIs M' hp P (layG G tn (T.put k v).slots) ∧ But (fun p => ¬ P p) M M' := by
  refine CallW.wf fun hw => ?_
  obtain ⟨kk, kn⟩ := k
  obtain ⟨vk, vn⟩ := v
  refine CallW.intro F.h44 rfl (fr := .nod (.val (.val .leaf (VlA ⟨kk, kn⟩) .leaf) (.ptr hp 0) .leaf) (.val (.val .leaf (VlA ⟨vk, vn⟩) .leaf) (VlA ⟨6, tn⟩) .leaf)) rfl ?_
  have b1 := But.new (S := fun _ => False) hw (.cells [.ptr hp 0] false)
  have w1 := hw.new (.cells [.ptr hp 0] false)
  have b2 := But.new (S := fun _ => False) w1 (.cells [.int 3 6, .int 3 tn] false)
  have w2 := w1.new (.cells [.int 3 6, .int 3 tn] false)
  have b3 := But.new (S := fun _ => False) w2 (.cells [.int 3 kk, .int 3 kn] false)
  have w3 := w2.new (.cells [.int 3 kk, .int 3 kn] false)
  have b4 := But.new (S := fun _ => False) w3 (.cells [.int 3 vk, .int 3 vn] false)
  have w4 := w3.new (.cells [.int 3 vk, .int 3 vn] false)
  have xh0 : (M.new (.cells [.ptr hp 0] false)).get M.next = some (.cells [.ptr hp 0] false) := by simp only [go_sem, reduceCtorEq, Nat.reduceEqDiff, Nat.reduceAdd, Nat.reduceMul, Nat.reduceLeDiff, Nat.reduceSub, Nat.reduceLT, Nat.reduceBEq, Nat.reduceBNe, Int.reduceBEq, Int.reduceBNe, Int.reduceLT, Int.reduceLE, Int.reduceAdd, Int.reduceEq, Int.reduceNe, beq_self_eq_true, bne_self_eq_false, decide_true, decide_false, Bool.not_true, Bool.not_false, Bool.false_eq_true, false_and, and_false, not_true_eq_false, not_false_eq_true]
  have xt0 : ((M.new (.cells [.ptr hp 0] false)).new (.cells [.int 3 6, .int 3 tn] false)).get M.next.succ = some (.cells [.int 3 6, .int 3 tn] false) := by simp only [go_sem, reduceCtorEq, Nat.reduceEqDiff, Nat.reduceAdd, Nat.reduceMul, Nat.reduceLeDiff, Nat.reduceSub, Nat.reduceLT, Nat.reduceBEq, Nat.reduceBNe, Int.reduceBEq, Int.reduceBNe, Int.reduceLT, Int.reduceLE, Int.reduceAdd, Int.reduceEq, Int.reduceNe, beq_self_eq_true, bne_self_eq_false, decide_true, decide_false, Bool.not_true, Bool.not_false, Bool.false_eq_true, false_and, and_false, not_true_eq_false, not_false_eq_true]
  have xk0 : (((M.new (.cells [.ptr hp 0] false)).new (.cells [.int 3 6, .int 3 tn] false)).new (.cells [.int 3 kk, .int 3 kn] false)).get M.next.succ.succ = some (.cells [.int 3 kk, .int 3 kn] false) := by simp only [go_sem, reduceCtorEq, Nat.reduceEqDiff, Nat.reduceAdd, Nat.reduceMul, Nat.reduceLeDiff, Nat.reduceSub, Nat.reduceLT, Nat.reduceBEq, Nat.reduceBNe, Int.reduceBEq, Int.reduceBNe, Int.reduceLT, Int.reduceLE, Int.reduceAdd, Int.reduceEq, Int.reduceNe, beq_self_eq_true, bne_self_eq_false, decide_true, decide_false, Bool.not_true, Bool.not_false, Bool.false_eq_true, false_and, and_false, not_true_eq_false, not_false_eq_true]
  have xv : ((((M.new (.cells [.ptr hp 0] false)).new (.cells [.int 3 6, .int 3 tn] false)).new (.cells [.int 3 kk, .int 3 kn] false)).new (.cells [.int 3 vk, .int 3 vn] false)).get M.next.succ.succ.succ = some (.cells [.int 3 vk, .int 3 vn] false) := by simp only [go_sem, reduceCtorEq, Nat.reduceEqDiff, Nat.reduceAdd, Nat.reduceMul, Nat.reduceLeDiff, Nat.reduceSub, Nat.reduceLT, Nat.reduceBEq, Nat.reduceBNe, Int.reduceBEq, Int.reduceBNe, Int.reduceLT, Int.reduceLE, Int.reduceAdd, Int.reduceEq, Int.reduceNe, beq_self_eq_true, bne_self_eq_false, decide_true, decide_false, Bool.not_true, Bool.not_false, Bool.false_eq_true, false_and, and_false, not_true_eq_false, not_false_eq_true]
  have xh := ((b2.trans b3).trans b4).get _ _ id xh0
  have xt := (b3.trans b4).get _ _ id xt0
  have xk := b4.get _ _ id xk0
  have b14 := (b1.trans b2).trans (b3.trans b4)
  have hH4 := hH.quiet b14
  simp only [go_sem, reduceCtorEq, Nat.reduceEqDiff, Nat.reduceAdd, Nat.reduceMul, Nat.reduceLeDiff, Nat.reduceSub, Nat.reduceLT, Nat.reduceBEq, Nat.reduceBNe, Int.reduceBEq, Int.reduceBNe, Int.reduceLT, Int.reduceLE, Int.reduceAdd, Int.reduceEq, Int.reduceNe, beq_self_eq_true, bne_self_eq_false, decide_true, decide_false, Bool.not_true, Bool.not_false, Bool.false_eq_true, false_and, and_false, not_true_eq_false, not_false_eq_true, cf44, VlA]
  generalize hM4 : (((M.new (.cells [.ptr hp 0] false)).new (.cells [.int 3 6, .int 3 tn] false)).new (.cells [.int 3 kk, .int 3 kn] false)).new (.cells [.int 3 vk, .int 3 vn] false) = M4 at *
  obtain ⟨o, ho, hok, hos⟩ := hT.obj
  have hlG : layG G tn (T.put ⟨kk, kn⟩ ⟨vk, vn⟩).slots = { G with objs := upd G.objs tn (some { o with slots := (T.put ⟨kk, kn⟩ ⟨vk, vn⟩).slots }) } := by simp only [layG, ho, Option.map_some]
  have told : CallW tbl 88 (.cons (.ptr hp 0) (.cons (VlA ⟨6, tn⟩) (.cons (.func (.func 89) .nil (.cons (.ptr M.next.succ.succ 0) (.cons (.ptr M.next.succ.succ.succ 0) (.cons (.ptr M.next 0) (.cons (.ptr M.next.succ 0) .nil))))) .nil))) M4 fun r M' => r = .ret (.tuple (.cons .nilslice (.cons (.int 3 0) .nil))) ∧ HeapIs M' hp P (layG G tn (T.put ⟨kk, kn⟩ ⟨vk, vn⟩).slots) ∧ But (fun p => ¬ P p) M4 M' := by
    refine CallW.intro F.h88 rfl (fr := .nod (.val (.val .leaf (.func (.func 89) .nil (.cons (.ptr M.next.succ.succ 0) (.cons (.ptr M.next.succ.succ.succ 0) (.cons (.ptr M.next 0) (.cons (.ptr M.next.succ 0) .nil))))) .leaf) (.ptr hp 0) .leaf) (.val .leaf (VlA ⟨6, tn⟩) .leaf)) rfl ?_
    have b5 := But.new (S := fun _ => False) w4 (.cells [.int 3 6, .int 3 tn] false)
    simp only [go_sem, reduceCtorEq, Nat.reduceEqDiff, Nat.reduceAdd, Nat.reduceMul, Nat.reduceLeDiff, Nat.reduceSub, Nat.reduceLT, Nat.reduceBEq, Nat.reduceBNe, Int.reduceBEq, Int.reduceBNe, Int.reduceLT, Int.reduceLE, Int.reduceAdd, Int.reduceEq, Int.reduceNe, beq_self_eq_true, bne_self_eq_false, decide_true, decide_false, Bool.not_true, Bool.not_false, Bool.false_eq_true, false_and, and_false, not_true_eq_false, not_false_eq_true, cf88, VlA]
    refine (slots_ok F (hH4.quiet b5) hT).use ?_
    rintro r M6 hw6 ⟨sv, rfl, hcut, b6⟩
    have b56 := b5.trans b6
    simp only [go_sem, reduceCtorEq, Nat.reduceEqDiff, Nat.reduceAdd, Nat.reduceMul, Nat.reduceLeDiff, Nat.reduceSub, Nat.reduceLT, Nat.reduceBEq, Nat.reduceBNe, Int.reduceBEq, Int.reduceBNe, Int.reduceLT, Int.reduceLE, Int.reduceAdd, Int.reduceEq, Int.reduceNe, beq_self_eq_true, bne_self_eq_false, decide_true, decide_false, Bool.not_true, Bool.not_false, Bool.false_eq_true, false_and, and_false, not_true_eq_false, not_false_eq_true]
    have hc : CallW tbl 89 (.cons sv (.cons (.ptr M.next.succ.succ 0) (.cons (.ptr M.next.succ.succ.succ 0) (.cons (.ptr M.next 0) (.cons (.ptr M.next.succ 0) .nil))))) M6 fun r M' => r = .ret (.tuple (.cons .nilslice (.cons (.int 3 0) .nil))) ∧ HeapIs M' hp P (layG G tn (T.put ⟨kk, kn⟩ ⟨vk, vn⟩).slots) ∧ But (fun p => ¬ P p) M6 M' := by
      refine CallW.intro F.h89 rfl (fr := .nod (.val (.val .leaf (.ptr M.next.succ.succ.succ 0) .leaf) sv (.val .leaf (.ptr M.next.succ 0) .leaf)) (.val (.val .leaf (.ptr M.next 0) .leaf) (.ptr M.next.succ.succ 0) .leaf)) rfl ?_
      have xk6 := b56.get _ _ id xk
      have xv6 := b56.get _ _ id xv
      simp only [go_sem, reduceCtorEq, Nat.reduceEqDiff, Nat.reduceAdd, Nat.reduceMul, Nat.reduceLeDiff, Nat.reduceSub, Nat.reduceLT, Nat.reduceBEq, Nat.reduceBNe, Int.reduceBEq, Int.reduceBNe, Int.reduceLT, Int.reduceLE, Int.reduceAdd, Int.reduceEq, Int.reduceNe, beq_self_eq_true, bne_self_eq_false, decide_true, decide_false, Bool.not_true, Bool.not_false, Bool.false_eq_true, false_and, and_false, not_true_eq_false, not_false_eq_true, cf89, xk6, xv6]
      refine (dput_spec F.pt F.h90 F.h76 F.h127 F.h152 (k := ⟨kk, kn⟩) (v := ⟨vk, vn⟩) hcut hT.ok hl hra hr hkr hk hkm hvm hv0).use ?_
      rintro r M7 hw7 ⟨nv, rfl, b7, hf⟩
      have b567 := b56.trans b7
      have xh7 := b567.get _ _ id xh
      have xt7 := b567.get _ _ id xt
      have g0 : ((0 : Int) == 0) = true := rfl
      simp only [go_sem, reduceCtorEq, Nat.reduceEqDiff, Nat.reduceAdd, Nat.reduceMul, Nat.reduceLeDiff, Nat.reduceSub, Nat.reduceLT, Nat.reduceBEq, Nat.reduceBNe, Int.reduceBEq, Int.reduceBNe, Int.reduceLT, Int.reduceLE, Int.reduceAdd, Int.reduceEq, Int.reduceNe, beq_self_eq_true, bne_self_eq_false, decide_true, decide_false, Bool.not_true, Bool.not_false, Bool.false_eq_true, false_and, and_false, not_true_eq_false, not_false_eq_true, xh7, xt7, g0]
      have hlen : (T.put ⟨kk, kn⟩ ⟨vk, vn⟩).slots.length ≤ most := by
        have h1 := putT_len T.arr T.prs ⟨kk, kn⟩ ⟨vk, vn⟩
        have hn : T.slots.length = T.arr.length + 2 * T.prs.length + 2 := by simp only [Tb.slots, List.length_cons, List.length_append, flatP_len]
        have hn' : (T.put ⟨kk, kn⟩ ⟨vk, vn⟩).slots.length = (putT T.arr T.prs ⟨kk, kn⟩ ⟨vk, vn⟩).1.length + 2 * (putT T.arr T.prs ⟨kk, kn⟩ ⟨vk, vn⟩).2.length + 2 := by simp only [Tb.put, Tb.slots, List.length_cons, List.length_append, flatP_len]
        simp only [most]; omega
      refine (lay_ok F.h75 F.h76 F.h77 F.h81 F.h85 F.h86 F.h115 F.h117 F.h121 F.h122 F.h143 F.h145 (hH4.quiet b567) ho (by rw [hok]; decide) hf.rows hlen hth).use ?_
      rintro r M8 hw8 ⟨rfl, hH8, b8⟩
      simp only [go_sem, reduceCtorEq, Nat.reduceEqDiff, Nat.reduceAdd, Nat.reduceMul, Nat.reduceLeDiff, Nat.reduceSub, Nat.reduceLT, Nat.reduceBEq, Nat.reduceBNe, Int.reduceBEq, Int.reduceBNe, Int.reduceLT, Int.reduceLE, Int.reduceAdd, Int.reduceEq, Int.reduceNe, beq_self_eq_true, bne_self_eq_false, decide_true, decide_false, Bool.not_true, Bool.not_false, Bool.false_eq_true, false_and, and_false, not_true_eq_false, not_false_eq_true]
      rw [hlG]
      first | exact ⟨hH8, (b7.any _).trans b8⟩ | exact ⟨rfl, hH8, (b7.any _).trans b8⟩
    refine hc.use ?_
    rintro r M8 hw8 ⟨rfl, hH8, b8⟩
    simp only [go_sem, reduceCtorEq, Nat.reduceEqDiff, Nat.reduceAdd, Nat.reduceMul, Nat.reduceLeDiff, Nat.reduceSub, Nat.reduceLT, Nat.reduceBEq, Nat.reduceBNe, Int.reduceBEq, Int.reduceBNe, Int.reduceLT, Int.reduceLE, Int.reduceAdd, Int.reduceEq, Int.reduceNe, beq_self_eq_true, bne_self_eq_false, decide_true, decide_false, Bool.not_true, Bool.not_false, Bool.false_eq_true, false_and, and_false, not_true_eq_false, not_false_eq_true]
    first | exact ⟨hH8, (b56.any _).trans b8⟩ | exact ⟨rfl, hH8, (b56.any _).trans b8⟩
  refine told.use ?_
  rintro r M5 hw5 ⟨rfl, hH5, b5⟩
  simp only [go_sem, reduceCtorEq, Nat.reduceEqDiff, Nat.reduceAdd, Nat.reduceMul, Nat.reduceLeDiff, Nat.reduceSub, Nat.reduceLT, Nat.reduceBEq, Nat.reduceBNe, Int.reduceBEq, Int.reduceBNe, Int.reduceLT, Int.reduceLE, Int.reduceAdd, Int.reduceEq, Int.reduceNe, beq_self_eq_true, bne_self_eq_false, decide_true, decide_false, Bool.not_true, Bool.not_false, Bool.false_eq_true, false_and, and_false, not_true_eq_false, not_false_eq_true]
  refine loop_wp (I := fun n fr M' => M' = M5 ∧ fr.get (.i (.i (.o (.i .h)))) = some (.int 3 0) ∧ fr.get (.o (.i (.o (.i .h)))) = some (.int 3 0)) (n := 0) ?_ ?_
  · exact ⟨rfl, rfl, rfl⟩
  · rintro n fr M' ⟨rfl, f1, f2⟩
    have g : decide ((0 : Int) < 0) = false := rfl
    simp only [go_sem, reduceCtorEq, Nat.reduceEqDiff, Nat.reduceAdd, Nat.reduceMul, Nat.reduceLeDiff, Nat.reduceSub, Nat.reduceLT, Nat.reduceBEq, Nat.reduceBNe, Int.reduceBEq, Int.reduceBNe, Int.reduceLT, Int.reduceLE, Int.reduceAdd, Int.reduceEq, Int.reduceNe, beq_self_eq_true, bne_self_eq_false, decide_true, decide_false, Bool.not_true, Bool.not_false, Bool.false_eq_true, false_and, and_false, not_true_eq_false, not_false_eq_true, f1, f2, g]
    first | exact ⟨hH5, (b14.any _).trans b5⟩ | exact ⟨rfl, hH5, (b14.any _).trans b5⟩
end
end Go.Proofs.Ythpnhdopheofcaa

end
section
namespace Go.Proofs.Ythpnhdopheofcaa
open Go.Dx

/-! The plain law of tables of whole numbers. -/
def nullC : Vl := ⟨1, 0⟩
def lookP (l : List (Vl × Vl)) (k : Vl) : Option Vl := (posP l k).bind fun i => (l[i]?).map (·.2)
theorem lookP_nil (k : Vl) : lookP [] k = none := rfl
theorem lookP_cons (x : Vl × Vl) (l : List (Vl × Vl)) (k : Vl) : lookP (x :: l) k = if x.1 = k then some x.2 else lookP l k := by
  unfold lookP posP
  rw [List.findIdx?_cons]
  by_cases h : x.1 = k
  · simp [h]
  · simp only [h, decide_false, Bool.false_eq_true, if_false]
    cases List.findIdx? (fun x => decide (x.1 = k)) l <;> simp
theorem lookP_iff (l : List (Vl × Vl)) (k v : Vl) (hd : (l.map (·.1)).Nodup) : lookP l k = some v ↔ (k, v) ∈ l := by
  induction l with
  | nil => simp [lookP_nil]
  | cons x l ih =>
    rw [List.map_cons, List.nodup_cons] at hd
    rw [lookP_cons]
    by_cases h : x.1 = k
    · simp only [h, if_true, Option.some.injEq, List.mem_cons]
      constructor
      · intro e; left; rw [← h, ← e]
      · rintro (e | e)
        · rw [← e]
        · exact absurd (List.mem_map.2 ⟨_, e, rfl⟩) (h ▸ hd.1)
    · simp only [h, if_false, ih hd.2, List.mem_cons]
      constructor
      · exact .inr
      · rintro (e | e)
        · exact absurd (by rw [← e]) h
        · exact e
theorem lookP_none {l : List (Vl × Vl)} {k : Vl} (h : posP l k = none) : lookP l k = none := by rw [lookP, h]; rfl
theorem lookP_some {l : List (Vl × Vl)} {k : Vl} {j : Nat} (h : posP l k = some j) : lookP l k = some (l[j]'(posP_lt h)).2 := by
  rw [lookP, h]; simp [posP_lt h]
theorem posP_key {l : List (Vl × Vl)} {k : Vl} {j : Nat} (h : posP l k = some j) : (l[j]'(posP_lt h)).1 = k := by
  have := (List.findIdx?_eq_some_iff_getElem.1 h).2.1
  simpa using this
theorem posP_not {l : List (Vl × Vl)} {k : Vl} (h : posP l k = none) : ∀ x ∈ l, x.1 ≠ k := by
  unfold posP at h
  rw [List.findIdx?_eq_none_iff] at h
  intro x hx e
  have := h x hx
  simp [e] at this
theorem posP_no {l : List (Vl × Vl)} {k : Vl} (h : ∀ x ∈ l, x.1 ≠ k) : posP l k = none := by
  unfold posP
  rw [List.findIdx?_eq_none_iff]
  intro x hx
  simp [h x hx]

theorem takeP_split (A B : List (Vl × Vl)) (x : Vl × Vl) : (takeP (A ++ x :: B) A.length).Perm (A ++ B) := by
  have h1 : (A ++ x :: B).take A.length = A := List.take_left
  have h2 : (A ++ x :: B).drop (A.length + 1) = B := by
    rw [show A ++ x :: B = (A ++ [x]) ++ B by simp, show A.length + 1 = (A ++ [x]).length by simp, List.drop_left]
  rcases List.eq_nil_or_concat B with rfl | ⟨B', y, rfl⟩
  · have h3 : (A ++ [x]).drop A.length = [x] := List.drop_left
    have h4 : (A ++ [x]).length - 1 = A.length := by simp
    unfold takeP
    rw [h4, h1, h2, h3, List.append_nil, List.append_nil, List.take_left]
  · have e : A ++ x :: (B' ++ [y]) = (A ++ x :: B') ++ [y] := by simp
    have h4 : (A ++ x :: (B' ++ [y])).length - 1 = (A ++ x :: B').length := by simp
    have h3 : (A ++ x :: (B' ++ [y])).drop (A ++ x :: B').length = [y] := by rw [e, List.drop_left]
    unfold takeP
    rw [List.concat_eq_append] at *
    rw [h4, h1, h2, h3]
    have h5 : (A ++ [y] ++ (B' ++ [y])) = (A ++ [y] ++ B') ++ [y] := by simp
    have h6 : (A ++ x :: B').length = (A ++ [y] ++ B').length := by simp
    rw [h5, h6, List.take_left, List.append_assoc]
    exact List.Perm.append_left A (List.perm_append_comm (l₁ := [y]) (l₂ := B'))

theorem split_at {α : Type} (l : List α) {j : Nat} (hj : j < l.length) : ∃ A B, l = A ++ l[j] :: B ∧ A.length = j := by
  refine ⟨l.take j, l.drop (j + 1), ?_, by simp; omega⟩
  rw [← List.drop_eq_getElem_cons, List.take_append_drop]

theorem takeP_facts {l : List (Vl × Vl)} {j : Nat} (hj : j < l.length) (hd : (l.map (·.1)).Nodup) :
    ((takeP l j).map (·.1)).Nodup ∧ (∀ x, x ∈ takeP l j ↔ x ∈ l ∧ x.1 ≠ l[j].1) ∧ ∀ k, lookP (takeP l j) k = if k = l[j].1 then none else lookP l k := by
  obtain ⟨A, B, hl, hA⟩ := split_at l hj
  generalize l[j] = x at *
  subst hl hA
  have hp := takeP_split A B x
  rw [List.map_append, List.map_cons, List.nodup_append] at hd
  obtain ⟨d1, d2, d3⟩ := hd
  rw [List.nodup_cons] at d2
  have hn : ((A ++ B).map (·.1)).Nodup := by
    rw [List.map_append, List.nodup_append]
    exact ⟨d1, d2.2, fun a ha b hb => d3 a ha b (List.mem_cons_of_mem _ hb)⟩
  have hnt : ((takeP (A ++ x :: B) A.length).map (·.1)).Nodup := (hp.map _).nodup_iff.2 hn
  have hm : ∀ y, y ∈ takeP (A ++ x :: B) A.length ↔ y ∈ (A ++ x :: B) ∧ y.1 ≠ x.1 := by
    intro y
    rw [hp.mem_iff, List.mem_append, List.mem_append, List.mem_cons]
    constructor
    · rintro (h | h)
      · exact ⟨.inl h, d3 _ (List.mem_map.2 ⟨y, h, rfl⟩) _ (List.mem_cons_self ..)⟩
      · exact ⟨.inr (.inr h), fun e => d2.1 (by rw [← e]; exact List.mem_map.2 ⟨y, h, rfl⟩)⟩
    · rintro ⟨h | h | h, hne⟩
      · exact .inl h
      · exact absurd (by rw [h]) hne
      · exact .inr h
  refine ⟨hnt, hm, fun k => ?_⟩
  have hd' : ((A ++ x :: B).map (·.1)).Nodup := by
    rw [List.map_append, List.map_cons, List.nodup_append]; exact ⟨d1, List.nodup_cons.2 d2, d3⟩
  apply Option.ext
  intro v
  rw [lookP_iff _ _ _ hnt, hm]
  by_cases e : k = x.1
  · simp [e]
  · simp [e, lookP_iff _ _ _ hd']

def get2 (arr : List Vl) (prs : List (Vl × Vl)) (k : Vl) : Vl := if placedV k arr.length = true then (arr[(k.n - 1).toNat]?).getD ⟨1, 0⟩ else (lookP prs k).getD ⟨1, 0⟩
theorem get_get2 (T : Tb) (k : Vl) : T.get k = get2 T.arr T.prs k := by
  unfold Tb.get get2 lookP
  split
  · rfl
  · cases posP T.prs k <;> rfl

def numV (v : Vl) : Prop := v.k = 3 ∨ v = ⟨1, 0⟩
theorem placed_iff (k : Vl) (n : Int) : placedV k n = true ↔ k.k = 3 ∧ 1 ≤ k.n ∧ k.n ≤ n := by simp [placedV]
theorem placed_false {k : Vl} {n : Int} : placedV k n = false ↔ ¬ (k.k = 3 ∧ 1 ≤ k.n ∧ k.n ≤ n) := by rw [← placed_iff]; simp

/-- What array and pairs of whole numbers must be. -/
structure NumA (arr : List Vl) (prs : List (Vl × Vl)) (b : Nat) : Prop where
  arr_ : ∀ v ∈ arr, numV v
  prs_ : ∀ x ∈ prs, x.1.k = 3 ∧ x.2.k = 3
  last : ∀ v, arr.getLast? = some v → v ≠ ⟨1, 0⟩
  once : (prs.map (·.1)).Nodup
  key : ∀ x ∈ prs, placedV x.1 ((arr.length : Int) + b) = false

theorem grow_law : ∀ (n : Nat) (arr : List Vl) (prs : List (Vl × Vl)), prs.length ≤ n → NumA arr prs 0 → NumA (growF n arr prs).1 (growF n arr prs).2 1 ∧ ∀ k, get2 (growF n arr prs).1 (growF n arr prs).2 k = get2 arr prs k := by
  intro n
  induction n with
  | zero =>
    intro arr prs hn h
    have : prs = [] := List.length_eq_zero_iff.1 (by omega)
    subst this
    exact ⟨⟨h.arr_, h.prs_, h.last, h.once, fun x hx => by cases hx⟩, fun k => rfl⟩
  | succ n ih =>
    intro arr prs hn h
    unfold growF
    cases hp : posP prs ⟨3, (arr.length : Int) + 1⟩ with
    | none =>
      refine ⟨⟨h.arr_, h.prs_, h.last, h.once, fun x hx => ?_⟩, fun k => rfl⟩
      have h1 := h.key x hx
      have h2 := posP_not hp x hx
      have h3 := (h.prs_ x hx).1
      rw [placed_false] at h1 ⊢
      rintro ⟨_, g1, g2⟩
      have hxn : x.1.n ≠ (arr.length : Int) + 1 := fun e => h2 (by
        obtain ⟨⟨a, b⟩, c⟩ := x
        simp only at h3 e
        rw [h3, e])
      exact h1 ⟨h3, g1, by simp at g2 ⊢; omega⟩
    | some j =>
      have hj := posP_lt hp
      have hk := posP_key hp
      obtain ⟨t1, t2, t3⟩ := takeP_facts hj h.once
      simp only [List.getElem?_eq_getElem hj, Option.map_some, Option.getD_some]
      have hx := h.prs_ _ (List.getElem_mem hj)
      have hA : NumA (arr ++ [prs[j].2]) (takeP prs j) 0 := by
        refine ⟨fun v hv => ?_, fun x hx => h.prs_ x ((t2 x).1 hx).1, fun v hv => ?_, t1, fun x hx => ?_⟩
        · rcases List.mem_append.1 hv with hv | hv
          · exact h.arr_ v hv
          · rw [List.mem_singleton.1 hv]; exact .inl hx.2
        · rw [List.getLast?_append, List.getLast?_singleton] at hv
          simp only [Option.some_or, Option.some.injEq] at hv
          rw [← hv]
          intro e
          have := hx.2
          rw [e] at this
          exact absurd this (by decide)
        · obtain ⟨m1, m2⟩ := (t2 x).1 hx
          have h1 := h.key x m1
          have h3 := (h.prs_ x m1).1
          rw [placed_false] at h1 ⊢
          rintro ⟨_, g1, g2⟩
          rw [hk] at m2
          have hxn : x.1.n ≠ (arr.length : Int) + 1 := fun e => m2 (by
            obtain ⟨⟨a, b⟩, c⟩ := x
            simp only at h3 e
            rw [h3, e])
          refine h1 ⟨h3, g1, ?_⟩
          simp at g2 ⊢
          omega
      obtain ⟨r1, r2⟩ := ih _ _ (by rw [takeP_len hj]; omega) hA
      refine ⟨r1, fun k => ?_⟩
      rw [r2 k]
      unfold get2
      have hlen : (((arr ++ [prs[j].2]).length : Nat) : Int) = (arr.length : Int) + 1 := by simp
      rw [hlen]
      by_cases p0 : placedV k (arr.length : Int) = true
      · have p1 : placedV k ((arr.length : Int) + 1) = true := by rw [placed_iff] at p0 ⊢; exact ⟨p0.1, p0.2.1, by omega⟩
        rw [if_pos p0, if_pos p1]
        rw [placed_iff] at p0
        rw [List.getElem?_append_left (by omega)]
      · rw [if_neg p0]
        by_cases p1 : placedV k ((arr.length : Int) + 1) = true
        · rw [if_pos p1]
          rw [placed_iff] at p0 p1
          have hkn : k.n = (arr.length : Int) + 1 := by
            have : ¬ k.n ≤ (arr.length : Int) := fun e => p0 ⟨p1.1, p1.2.1, e⟩
            omega
          have hkk : k = ⟨3, (arr.length : Int) + 1⟩ := by
            obtain ⟨a, b⟩ := k
            simp only at hkn p1
            rw [hkn, p1.1]
          rw [hkk, lookP_some hp]
          simp only [Option.getD_some]
          rw [show ((arr.length : Int) + 1 - 1).toNat = arr.length by omega]
          simp
        · rw [if_neg p1, t3, if_neg]
          intro e
          rw [e, hk] at p1
          exact p1 (by rw [placed_iff]; exact ⟨rfl, by simp only; omega, by simp only; omega⟩)
theorem trim_law : ∀ (n : Nat) (l : List Vl), l.length ≤ n → (∃ m, l = trimF n l ++ List.replicate m ⟨1, 0⟩) ∧ ∀ v, (trimF n l).getLast? = some v → v ≠ ⟨1, 0⟩ := by
  intro n
  induction n with
  | zero =>
    intro l hl
    have : l = [] := List.length_eq_zero_iff.1 (by omega)
    subst this
    exact ⟨⟨0, rfl⟩, fun v hv => by cases hv⟩
  | succ n ih =>
    intro l hl
    unfold trimF
    cases hg : l.getLast? with
    | none =>
      simp only
      exact ⟨⟨0, by simp⟩, fun v hv => by rw [hg] at hv; cases hv⟩
    | some v =>
      simp only
      by_cases hv : nullV v = true
      · rw [if_pos hv]
        have hne : l ≠ [] := by intro e; rw [e] at hg; cases hg
        obtain ⟨⟨m, h1⟩, h2⟩ := ih l.dropLast (by rw [List.length_dropLast]; omega)
        refine ⟨⟨m + 1, ?_⟩, h2⟩
        have e1 : l = l.dropLast ++ [v] := by
          obtain ⟨ys, rfl⟩ := List.getLast?_eq_some_iff.1 hg
          rw [List.dropLast_concat]
        have hv0 : v = ⟨1, 0⟩ := by simpa [nullV] using hv
        rw [List.replicate_succ', ← List.append_assoc, ← h1, ← hv0]
        exact e1
      · rw [if_neg hv]
        refine ⟨⟨0, by simp⟩, fun w hw => ?_⟩
        rw [hg] at hw
        cases hw
        intro e
        exact hv (by simp [nullV, e])

theorem lay_law {arr : List Vl} {i : Nat} {v : Vl} (hi : i < arr.length) (hl : ∀ v, arr.getLast? = some v → v ≠ ⟨1, 0⟩) :
    (∃ m, arr.set i v = layV arr i v ++ List.replicate m ⟨1, 0⟩) ∧ ∀ w, (layV arr i v).getLast? = some w → w ≠ ⟨1, 0⟩ := by
  unfold layV
  by_cases h : i + 1 < arr.length
  · rw [if_pos h]
    refine ⟨⟨0, by simp⟩, fun w hw => hl w ?_⟩
    rw [List.getLast?_eq_getElem?] at hw ⊢
    rw [List.length_set, List.getElem?_set_ne (by omega)] at hw
    exact hw
  · rw [if_neg h]
    exact trim_law _ _ (by rw [List.length_set]; exact Nat.le_refl _)

theorem posP_set (l : List (Vl × Vl)) {j : Nat} (hj : j < l.length) (v k : Vl) : lookP (l.set j (l[j].1, v)) k = if posP l k = some j then some v else lookP l k := by
  induction l generalizing j with
  | nil => simp at hj
  | cons x l ih =>
    cases j with
    | zero =>
      rw [List.set_cons_zero, lookP_cons, lookP_cons]
      simp only [List.getElem_cons_zero]
      by_cases h : x.1 = k
      · simp [h, posP, List.findIdx?_cons]
      · simp [h, posP, List.findIdx?_cons]
    | succ j =>
      rw [List.set_cons_succ, lookP_cons, lookP_cons]
      simp only [List.getElem_cons_succ]
      rw [ih (by simpa using hj)]
      by_cases h : x.1 = k
      · simp [h, posP, List.findIdx?_cons]
      · have e : posP (x :: l) k = (posP l k).map (· + 1) := by simp [posP, List.findIdx?_cons, h]
        rw [if_neg h, if_neg h, e]
        cases posP l k <;> simp
theorem set_keys (l : List (Vl × Vl)) {j : Nat} (hj : j < l.length) (v : Vl) : (l.set j (l[j].1, v)).map (·.1) = l.map (·.1) := by
  rw [List.map_set]
  simp only
  have : l[j].1 = (l.map (·.1))[j]'(by rw [List.length_map]; exact hj) := by simp
  rw [this, List.set_getElem_self]
theorem posP_iff {l : List (Vl × Vl)} {j : Nat} (hd : (l.map (·.1)).Nodup) (hj : j < l.length) (k : Vl) : posP l k = some j ↔ l[j].1 = k := by
  constructor
  · intro h; exact posP_key h
  · intro h
    refine posP_at hj ?_ h
    rw [← h]
    exact posP_take l hj hd

structure NumT (T : Tb) : Prop extends NumA T.arr T.prs 1 where
  met : T.met = ⟨1, 0⟩

theorem put_law {T : Tb} {k v : Vl} (h : NumT T) (hk : k.k = 3) (hv : numV v) : NumT (T.put k v) ∧ ∀ k', (T.put k v).get k' = if k' = k then v else T.get k' := by
  suffices hs : NumA (putT T.arr T.prs k v).1 (putT T.arr T.prs k v).2 1 ∧ ∀ k', get2 (putT T.arr T.prs k v).1 (putT T.arr T.prs k v).2 k' = if k' = k then v else get2 T.arr T.prs k' by
    refine ⟨{ hs.1 with met := h.met }, fun k' => ?_⟩
    rw [get_get2, get_get2]
    exact hs.2 k'
  obtain ⟨hA, hmet⟩ := h
  generalize T.arr = arr at *
  generalize T.prs = prs at *
  have hv3 : nullV v = false → v.k = 3 := fun e => by
    rcases hv with hv | hv
    · exact hv
    · rw [hv] at e; exact absurd e (by decide)
  have hvn : nullV v = true → v = ⟨1, 0⟩ := fun e => by simpa [nullV] using e
  unfold putT
  by_cases hp : placedV k arr.length = true
  · rw [if_pos hp]
    rw [placed_iff] at hp
    have hi : k.n.toNat - 1 < arr.length := by omega
    obtain ⟨⟨m, l1⟩, l2⟩ := lay_law (v := v) hi hA.last
    simp only
    have hlen : arr.length = (layV arr (k.n.toNat - 1) v).length + m := by
      have := congrArg List.length l1
      rw [List.length_set, List.length_append, List.length_replicate] at this
      exact this
    refine ⟨⟨fun w hw => ?_, hA.prs_, l2, hA.once, fun x hx => ?_⟩, fun k' => ?_⟩
    · have hm : w ∈ arr.set (k.n.toNat - 1) v := by rw [l1]; exact List.mem_append_left _ hw
      rcases List.mem_or_eq_of_mem_set hm with hm | hm
      · exact hA.arr_ w hm
      · rw [hm]; exact hv
    · have h1 := hA.key x hx
      rw [placed_false] at h1 ⊢
      rintro ⟨g0, g1, g2⟩
      exact h1 ⟨g0, g1, by omega⟩
    · generalize layV arr (k.n.toNat - 1) v = arr' at *
      have hS : ∀ i : Nat, (arr'[i]?).getD (⟨1, 0⟩ : Vl) = ((arr.set (k.n.toNat - 1) v)[i]?).getD (⟨1, 0⟩ : Vl) := by
        intro i
        rw [l1]
        by_cases hi : i < arr'.length
        · rw [List.getElem?_append_left hi]
        · rw [List.getElem?_append_right (by omega), List.getElem?_eq_none (by omega), List.getElem?_replicate]
          split <;> rfl
      unfold get2
      by_cases q : placedV k' (arr.length : Int) = true
      · have hq := q
        rw [placed_iff] at hq
        have e2 : (if placedV k' (arr'.length : Int) = true then (arr'[(k'.n - 1).toNat]?).getD ⟨1, 0⟩ else (lookP prs k').getD ⟨1, 0⟩) = ((arr.set (k.n.toNat - 1) v)[(k'.n - 1).toNat]?).getD ⟨1, 0⟩ := by
          by_cases q2 : placedV k' (arr'.length : Int) = true
          · rw [if_pos q2, hS]
          · rw [if_neg q2, ← hS]
            rw [placed_iff] at q2
            have hno : lookP prs k' = none := lookP_none (posP_no fun x hx e => by
              have := hA.key x hx
              rw [placed_false, e] at this
              exact this ⟨hq.1, hq.2.1, by omega⟩)
            have hge : arr'.length ≤ (k'.n - 1).toNat := by
              have : ¬ k'.n ≤ (arr'.length : Int) := fun e => q2 ⟨hq.1, hq.2.1, e⟩
              omega
            rw [hno, List.getElem?_eq_none hge]
        rw [e2, if_pos q]
        by_cases e : k' = k
        · rw [if_pos e, e]
          rw [show (k.n - 1).toNat = k.n.toNat - 1 by omega, List.getElem?_set_self hi]
          rfl
        · rw [if_neg e, List.getElem?_set_ne]
          intro en
          apply e
          obtain ⟨a, b⟩ := k
          obtain ⟨a', b'⟩ := k'
          simp only at *
          rw [hq.1, hk]
          congr 1
          omega
      · have q2 : ¬ placedV k' (arr'.length : Int) = true := fun e => q (by rw [placed_iff] at e ⊢; exact ⟨e.1, e.2.1, by omega⟩)
        have e : ¬ k' = k := fun e => q (by rw [e, placed_iff]; exact hp)
        rw [if_neg q, if_neg q2, if_neg e]
  · rw [if_neg hp]
    have hp' : placedV k arr.length = false := by simpa using hp
    cases hpos : posP prs k with
    | some j =>
      have hj := posP_lt hpos
      have hkey := posP_key hpos
      simp only
      cases hvb : nullV v with
      | true =>
        have hv0 := hvn hvb
        obtain ⟨t1, t2, t3⟩ := takeP_facts hj hA.once
        simp only [if_true]
        refine ⟨⟨hA.arr_, fun x hx => hA.prs_ x ((t2 x).1 hx).1, hA.last, t1, fun x hx => hA.key x ((t2 x).1 hx).1⟩, fun k' => ?_⟩
        unfold get2
        by_cases e : k' = k
        · rw [if_pos e, e, hp', t3, hkey]
          simp [hv0]
        · rw [if_neg e, t3, hkey, if_neg e]
      | false =>
        simp only [Bool.false_eq_true, if_false, List.getElem?_eq_getElem hj, Option.map_some, Option.getD_some]
        have hmem : ∀ x ∈ prs.set j (prs[j].1, v), x ∈ prs ∨ x = (prs[j].1, v) := fun x hx => List.mem_or_eq_of_mem_set hx
        have hkj := hA.key _ (List.getElem_mem hj)
        refine ⟨⟨hA.arr_, fun x hx => ?_, hA.last, by rw [set_keys prs hj]; exact hA.once, fun x hx => ?_⟩, fun k' => ?_⟩
        · rcases hmem x hx with m | m
          · exact hA.prs_ x m
          · rw [m]; exact ⟨(hA.prs_ _ (List.getElem_mem hj)).1, hv3 hvb⟩
        · rcases hmem x hx with m | m
          · exact hA.key x m
          · rw [m]; exact hkj
        · unfold get2
          rw [posP_set prs hj]
          have hiff := posP_iff hA.once hj k'
          by_cases e : k' = k
          · rw [if_pos e, e, hp', if_pos hpos]
            rfl
          · rw [if_neg e, if_neg (c := posP prs k' = some j) (fun h => e (by rw [← hkey, hiff.1 h]))]
    | none =>
      simp only
      have hno : lookP prs k = none := lookP_none hpos
      cases hvb : nullV v with
      | true =>
        have hv0 := hvn hvb
        simp only [if_true]
        refine ⟨hA, fun k' => ?_⟩
        by_cases e : k' = k
        · rw [if_pos e, e]
          unfold get2
          rw [hp', hno, hv0]
          rfl
        · rw [if_neg e]
      | false =>
        have hv3' := hv3 hvb
        simp only [Bool.false_eq_true, if_false]
        by_cases hp1 : placedV k ((arr.length : Int) + 1) = true
        · rw [if_pos hp1]
          rw [placed_iff] at hp1
          rw [placed_false] at hp'
          have hkn : k.n = (arr.length : Int) + 1 := by
            have : ¬ k.n ≤ (arr.length : Int) := fun e => hp' ⟨hk, hp1.2.1, e⟩
            omega
          have hkk : k = ⟨3, (arr.length : Int) + 1⟩ := by
            obtain ⟨a, b⟩ := k
            simp only at hkn hk
            rw [hkn, hk]
          have hA' : NumA (arr ++ [v]) prs 0 := by
            refine ⟨fun w hw => ?_, hA.prs_, fun w hw => ?_, hA.once, fun x hx => ?_⟩
            · rcases List.mem_append.1 hw with hw | hw
              · exact hA.arr_ w hw
              · rw [List.mem_singleton.1 hw]; exact hv
            · rw [List.getLast?_append, List.getLast?_singleton] at hw
              simp only [Option.some_or, Option.some.injEq] at hw
              rw [← hw]
              intro e
              rw [e] at hvb
              exact absurd hvb (by decide)
            · have := hA.key x hx
              rw [List.length_append, List.length_singleton]
              simpa using this
          obtain ⟨r1, r2⟩ := grow_law prs.length (arr ++ [v]) prs (Nat.le_refl _) hA'
          refine ⟨r1, fun k' => ?_⟩
          rw [r2 k']
          unfold get2
          have hlen : (((arr ++ [v]).length : Nat) : Int) = (arr.length : Int) + 1 := by simp
          rw [hlen]
          by_cases e : k' = k
          · rw [if_pos e, e, if_pos ((placed_iff _ _).2 hp1), hkk]
            rw [show ((arr.length : Int) + 1 - 1).toNat = arr.length by omega]
            simp
          · rw [if_neg e]
            by_cases q : placedV k' (arr.length : Int) = true
            · have q1 : placedV k' ((arr.length : Int) + 1) = true := by rw [placed_iff] at q ⊢; exact ⟨q.1, q.2.1, by omega⟩
              rw [if_pos q, if_pos q1]
              rw [placed_iff] at q
              rw [List.getElem?_append_left (by omega)]
            · have q1 : ¬ placedV k' ((arr.length : Int) + 1) = true := fun h => by
                rw [placed_iff] at h q
                apply e
                have : k'.n = (arr.length : Int) + 1 := by
                  have : ¬ k'.n ≤ (arr.length : Int) := fun e => q ⟨h.1, h.2.1, e⟩
                  omega
                obtain ⟨a, b⟩ := k'
                simp only at this h
                rw [hkk, this, h.1]
              rw [if_neg q, if_neg q1]
        · rw [if_neg hp1]
          have hp1' : placedV k ((arr.length : Int) + 1) = false := by simpa using hp1
          have hnd : ((prs ++ [(k, v)]).map (·.1)).Nodup := by
            rw [List.map_append, List.nodup_append]
            refine ⟨hA.once, by simp, fun a ha b hb => ?_⟩
            simp only [List.map_cons, List.map_nil, List.mem_singleton] at hb
            obtain ⟨x, hx, rfl⟩ := List.mem_map.1 ha
            rw [hb]
            exact posP_not hpos x hx
          refine ⟨⟨hA.arr_, fun x hx => ?_, hA.last, hnd, fun x hx => ?_⟩, fun k' => ?_⟩
          · rcases List.mem_append.1 hx with m | m
            · exact hA.prs_ x m
            · rw [List.mem_singleton.1 m]; exact ⟨hk, hv3'⟩
          · rcases List.mem_append.1 hx with m | m
            · exact hA.key x m
            · rw [List.mem_singleton.1 m]; exact hp1'
          · have hlk : lookP (prs ++ [(k, v)]) k' = if k' = k then some v else lookP prs k' := by
              apply Option.ext
              intro w
              rw [lookP_iff _ _ _ hnd, List.mem_append, List.mem_singleton]
              by_cases e : k' = k
              · rw [if_pos e, e]
                constructor
                · rintro (m | m)
                  · exact absurd rfl (posP_not hpos _ m)
                  · cases m; rfl
                · intro m; cases m; exact .inr rfl
              · rw [if_neg e, lookP_iff _ _ _ hA.once]
                constructor
                · rintro (m | m)
                  · exact m
                  · cases m; exact absurd rfl e
                · exact .inl
            unfold get2
            by_cases e : k' = k
            · rw [if_pos e, hlk, if_pos e, e, hp']
              rfl
            · rw [if_neg e, hlk, if_neg e]
end Go.Proofs.Ythpnhdopheofcaa

end
section
namespace Go.Proofs.Ythpnhdopheofcaa
open Go.Dx

theorem numV_may {v : Vl} (h : numV v) : mayV v = true ∧ v.k ≠ 0 ∧ refV v = false := by
  rcases h with h | rfl
  · have e : mayV v = true := by simp [mayV, h]
    exact ⟨e, by omega, by simp [refV, h]⟩
  · decide
theorem NumT.slots {T : Tb} (h : NumT T) : ∀ v ∈ T.slots, numV v := by
  intro v hv
  simp only [Tb.slots, List.mem_cons, List.mem_append] at hv
  rcases hv with rfl | rfl | hv | hv
  · exact .inr h.met
  · exact .inl rfl
  · exact h.arr_ v hv
  · simp only [flatP, List.mem_flatMap] at hv
    obtain ⟨x, hx, hv⟩ := hv
    simp only [List.mem_cons, List.not_mem_nil, or_false] at hv
    rcases hv with rfl | rfl
    · exact .inl (h.prs_ x hx).1
    · exact .inl (h.prs_ x hx).2
theorem NumT.ok {T : Tb} (h : NumT T) (hl : T.slots.length ≤ 2 ^ 20) : TbOk T where
  may := fun v hv => ⟨(numV_may (h.slots v hv)).1, (numV_may (h.slots v hv)).2.1⟩
  met := .inl h.met
  last := h.last
  once := h.once
  key := fun x hx => by
    have hp := h.prs_ x hx
    refine ⟨?_, fun e => ?_, h.key x hx⟩
    · have := (numV_may (.inl hp.1)).1
      simp [keyV, this, hp.1]
    · rw [e] at hp; exact absurd hp.2 (by decide)
  len := hl

def keysA : List Vl → Nat → List Vl
  | [], _ => []
  | v :: l, i => if nullV v = true then keysA l (i + 1) else ⟨3, (i : Int) + 1⟩ :: keysA l (i + 1)
def restL (T : Tb) (a b : Nat) : List Vl := keysA (T.arr.drop a) a ++ (T.prs.drop b).map (·.1)

theorem scan_law (arr : List Vl) : ∀ (n a : Nat), a + n = arr.length → match scanN arr n a with
    | some j => a ≤ j ∧ (∃ h : j < arr.length, nullV arr[j] = false) ∧ keysA (arr.drop a) a = ⟨3, (j : Int) + 1⟩ :: keysA (arr.drop (j + 1)) (j + 1)
    | none => keysA (arr.drop a) a = [] := by
  intro n
  induction n with
  | zero =>
    intro a ha
    simp only [scanN]
    rw [List.drop_eq_nil_of_le (by omega)]
    rfl
  | succ n ih =>
    intro a ha
    have hlt : a < arr.length := by omega
    unfold scanN
    rw [List.getElem?_eq_getElem hlt, Option.getD_some, List.drop_eq_getElem_cons hlt]
    by_cases hv : nullV arr[a] = true
    · rw [if_pos hv]
      have := ih (a + 1) (by omega)
      have e : keysA (arr[a] :: arr.drop (a + 1)) a = keysA (arr.drop (a + 1)) (a + 1) := by simp only [keysA, hv, if_true]
      rw [e]
      cases hs : scanN arr n (a + 1) with
      | none => rw [hs] at this; exact this
      | some j =>
        rw [hs] at this
        exact ⟨by have := this.1; omega, this.2⟩
    · rw [if_neg hv]
      refine ⟨Nat.le_refl _, ⟨hlt, by simpa using hv⟩, ?_⟩
      simp only [keysA, hv, Bool.false_eq_true, if_false]

theorem get_arr {T : Tb} {j : Nat} (hj : j < T.arr.length) : T.get ⟨3, (j : Int) + 1⟩ = T.arr[j] := by
  have hp : placedV ⟨3, (j : Int) + 1⟩ T.arr.length = true := by rw [placed_iff]; exact ⟨rfl, by simp only; omega, by simp only; omega⟩
  simp only [Tb.get, hp, if_true]
  rw [show ((j : Int) + 1 - 1).toNat = j by omega, List.getElem?_eq_getElem hj]
  rfl
theorem get_prs {T : Tb} (h : NumT T) {b : Nat} (hb : b < T.prs.length) : posP T.prs T.prs[b].1 = some b ∧ placedV T.prs[b].1 T.arr.length = false ∧ T.get T.prs[b].1 = T.prs[b].2 := by
  have hpos := (posP_iff h.once hb T.prs[b].1).2 rfl
  have hk := h.key _ (List.getElem_mem hb)
  have hp : placedV T.prs[b].1 T.arr.length = false := by
    rw [placed_false] at hk ⊢
    rintro ⟨g0, g1, g2⟩
    exact hk ⟨g0, g1, by omega⟩
  refine ⟨hpos, hp, ?_⟩
  simp only [Tb.get, hp, hpos, Bool.false_eq_true, if_false, List.getElem?_eq_getElem hb, Option.map_some, Option.getD_some]

theorem next_law {T : Tb} (h : NumT T) {a b : Nat} (ha : a ≤ T.arr.length) (hb : b ≤ T.prs.length) (hab : b = 0 ∨ a = T.arr.length) :
    (restL T a b = [] ∧ T.nextV a b = ⟨1, 0⟩) ∨ ∃ k R a' b', restL T a b = k :: R ∧ T.nextV a b = k ∧ k.k = 3 ∧ nullV (T.get k) = false ∧ T.start k = some (a', b') ∧ restL T a' b' = R ∧ a' ≤ T.arr.length ∧ b' ≤ T.prs.length ∧ (b' = 0 ∨ a' = T.arr.length) := by
  have hs := scan_law T.arr (T.arr.length - a) a (by omega)
  unfold Tb.nextV
  cases hc : scanN T.arr (T.arr.length - a) a with
  | some j =>
    rw [hc] at hs
    obtain ⟨h1, ⟨h2, h3⟩, h4⟩ := hs
    have hb0 : b = 0 := by
      rcases hab with e | e
      · exact e
      · omega
    subst hb0
    right
    refine ⟨⟨3, (j : Int) + 1⟩, keysA (T.arr.drop (j + 1)) (j + 1) ++ T.prs.map (·.1), j + 1, 0, ?_, rfl, rfl, ?_, ?_, ?_, by omega, by omega, .inl rfl⟩
    · simp only [restL, h4, List.drop_zero, List.cons_append]
    · rw [get_arr h2]; exact h3
    · have hno : posP T.prs ⟨3, (j : Int) + 1⟩ = none := posP_no fun x hx e => by
        have := h.key x hx
        rw [e, placed_false] at this
        exact this ⟨rfl, by simp only; omega, by simp only; omega⟩
      have hp : placedV ⟨3, (j : Int) + 1⟩ T.arr.length = true := by rw [placed_iff]; exact ⟨rfl, by simp only; omega, by simp only; omega⟩
      simp only [Tb.start, hno, hp, if_true]
      congr 2
    · simp only [restL, List.drop_zero]
  | none =>
    rw [hc] at hs
    simp only
    by_cases hlt : b < T.prs.length
    · right
      obtain ⟨g1, g2, g3⟩ := get_prs h hlt
      have hp := h.prs_ _ (List.getElem_mem hlt)
      refine ⟨T.prs[b].1, (T.prs.drop (b + 1)).map (·.1), T.arr.length, b + 1, ?_, ?_, hp.1, ?_, ?_, ?_, Nat.le_refl _, hlt, .inr rfl⟩
      · simp only [restL, hs, List.nil_append]
        rw [List.drop_eq_getElem_cons hlt, List.map_cons]
      · simp only [Tb.keyAt, List.getElem?_eq_getElem hlt, Option.map_some, Option.getD_some]
      · rw [g3]
        simp only [nullV, decide_eq_false_iff_not]
        intro e
        rw [e] at hp
        exact absurd hp.2 (by decide)
      · simp only [Tb.start, g1]
      · simp only [restL]
        rw [List.drop_eq_nil_of_le (Nat.le_refl _)]
        rfl
    · left
      refine ⟨?_, ?_⟩
      · simp only [restL, hs, List.nil_append]
        rw [List.drop_eq_nil_of_le (by omega)]
        rfl
      · simp only [Tb.keyAt, List.getElem?_eq_none (by omega : T.prs.length ≤ b), Option.map_none, Option.getD_none]

theorem keysA_mem : ∀ (l : List Vl) (i : Nat) (k : Vl), k ∈ keysA l i ↔ ∃ j, ∃ h : j < l.length, k = ⟨3, (i : Int) + j + 1⟩ ∧ nullV l[j] = false := by
  intro l
  induction l with
  | nil => intro i k; simp [keysA]
  | cons v l ih =>
    intro i k
    have step : (∃ j, ∃ h : j < (v :: l).length, k = ⟨3, (i : Int) + j + 1⟩ ∧ nullV (v :: l)[j] = false) ↔ (k = ⟨3, (i : Int) + 1⟩ ∧ nullV v = false) ∨ ∃ j, ∃ h : j < l.length, k = ⟨3, ((i + 1 : Nat) : Int) + j + 1⟩ ∧ nullV l[j] = false := by
      constructor
      · rintro ⟨j, hj, e1, e2⟩
        cases j with
        | zero => left; exact ⟨by simpa using e1, e2⟩
        | succ j =>
          right
          refine ⟨j, by simpa using hj, ?_, e2⟩
          rw [e1]; congr 1; omega
      · rintro (⟨e1, e2⟩ | ⟨j, hj, e1, e2⟩)
        · exact ⟨0, by simp, by simpa using e1, e2⟩
        · refine ⟨j + 1, by simpa using hj, ?_, e2⟩
          rw [e1]; congr 1; omega
    rw [step]
    unfold keysA
    by_cases hv : nullV v = true
    · rw [if_pos hv, ih]
      constructor
      · exact .inr
      · rintro (⟨_, e⟩ | e)
        · rw [hv] at e; cases e
        · exact e
    · rw [if_neg hv, List.mem_cons, ih]
      have hv' : nullV v = false := by simpa using hv
      constructor
      · rintro (e | e)
        · exact .inl ⟨e, hv'⟩
        · exact .inr e
      · rintro (⟨e, _⟩ | e)
        · exact .inl e
        · exact .inr e
theorem keysA_nodup : ∀ (l : List Vl) (i : Nat), (keysA l i).Nodup := by
  intro l
  induction l with
  | nil => intro i; exact List.nodup_nil
  | cons v l ih =>
    intro i
    unfold keysA
    by_cases hv : nullV v = true
    · rw [if_pos hv]; exact ih _
    · rw [if_neg hv, List.nodup_cons]
      refine ⟨fun hm => ?_, ih _⟩
      rw [keysA_mem] at hm
      obtain ⟨j, _, e, _⟩ := hm
      have := congrArg Vl.n e
      simp only at this
      omega

theorem keys_mem {T : Tb} (h : NumT T) (K : Int) : ⟨3, K⟩ ∈ restL T 0 0 ↔ nullV (T.get ⟨3, K⟩) = false := by
  simp only [restL, List.drop_zero, List.mem_append, keysA_mem]
  constructor
  · rintro (⟨j, hj, e1, e2⟩ | hm)
    · have : K = (j : Int) + 1 := by have := congrArg Vl.n e1; simp only at this; omega
      rw [this, get_arr hj]; exact e2
    · obtain ⟨x, hx, e⟩ := List.mem_map.1 hm
      obtain ⟨b, hb, rfl⟩ := List.getElem_of_mem hx
      rw [← e, (get_prs h hb).2.2]
      have hp := (h.prs_ _ hx).2
      simp only [nullV, decide_eq_false_iff_not]
      intro e
      rw [e] at hp
      exact absurd hp (by decide)
  · intro hn
    rw [get_get2] at hn
    unfold get2 at hn
    by_cases hp : placedV ⟨3, K⟩ T.arr.length = true
    · rw [if_pos hp] at hn
      rw [placed_iff] at hp
      simp only at hp hn
      have hlt : (K - 1).toNat < T.arr.length := by omega
      rw [List.getElem?_eq_getElem hlt, Option.getD_some] at hn
      exact .inl ⟨(K - 1).toNat, hlt, by congr 1; omega, hn⟩
    · rw [if_neg hp] at hn
      right
      cases hl : lookP T.prs ⟨3, K⟩ with
      | none => rw [hl] at hn; exact absurd hn (by decide)
      | some v =>
        rw [lookP_iff _ _ _ h.once] at hl
        exact List.mem_map.2 ⟨_, hl, rfl⟩
theorem keys_nodup {T : Tb} (h : NumT T) : (restL T 0 0).Nodup := by
  simp only [restL, List.drop_zero]
  rw [List.nodup_append]
  refine ⟨keysA_nodup _ _, h.once, fun a ha b hb e => ?_⟩
  rw [keysA_mem] at ha
  obtain ⟨j, hj, e1, _⟩ := ha
  obtain ⟨x, hx, e2⟩ := List.mem_map.1 hb
  have := h.key x hx
  rw [e2, ← e, e1, placed_false] at this
  exact this ⟨rfl, by simp only; omega, by simp only; omega⟩
theorem keys_int {T : Tb} (h : NumT T) : ∀ k ∈ restL T 0 0, k.k = 3 := by
  intro k hk
  simp only [restL, List.drop_zero, List.mem_append, keysA_mem] at hk
  rcases hk with ⟨j, hj, e, _⟩ | hm
  · rw [e]
  · obtain ⟨x, hx, rfl⟩ := List.mem_map.1 hm
    exact (h.prs_ x hx).1

/-- What the law's own map says. -/
def wantF (T : Tb) : AV → Option AV
  | .int 3 K => if nullV (T.get ⟨3, K⟩) = true then none else some (.int 3 (T.get ⟨3, K⟩).n)
  | _ => none
theorem want_size {T : Tb} (h : NumT T) {es : ME} (hm : MapIs (.leaf .int) (fun a => ∃ n, a = .int 3 n) es (wantF T)) : es.size = (restL T 0 0).length := by
  have e0 : (restL T 0 0).length = ((restL T 0 0).map (fun v : Vl => AV.int 3 v.n)).length := by rw [List.length_map]
  rw [ME.size_keys, e0]
  apply List.Perm.length_eq
  have hn2 : ((restL T 0 0).map (fun v : Vl => AV.int 3 v.n)).Nodup := by
    have := keys_nodup h
    have hi := keys_int h
    clear e0
    generalize restL T 0 0 = l at *
    induction l with
    | nil => exact List.nodup_nil
    | cons k l ih =>
      rw [List.nodup_cons] at this
      rw [List.map_cons, List.nodup_cons]
      refine ⟨fun hm => ?_, ih this.2 fun k hk => hi k (List.mem_cons_of_mem _ hk)⟩
      obtain ⟨k', hk', e⟩ := List.mem_map.1 hm
      have e1 := hi k (List.mem_cons_self ..)
      have e2 := hi k' (List.mem_cons_of_mem _ hk')
      have e3 : k' = k := by
        obtain ⟨a, b⟩ := k
        obtain ⟨a', b'⟩ := k'
        simp only [AV.int.injEq, true_and] at e e1 e2
        rw [e1, e2, e]
      exact this.1 (e3 ▸ hk')
  rw [List.perm_ext_iff_of_nodup hm.once hn2]
  intro a
  constructor
  · intro ha
    obtain ⟨K, rfl⟩ := hm.good a ha
    have := (hm.mem _ ⟨K, rfl⟩).1 ha
    simp only [wantF] at this
    have hn : nullV (T.get ⟨3, K⟩) = false := by
      cases hv : nullV (T.get ⟨3, K⟩) with
      | false => rfl
      | true => rw [hv] at this; exact absurd rfl this
    exact List.mem_map.2 ⟨⟨3, K⟩, (keys_mem h K).2 hn, rfl⟩
  · intro ha
    obtain ⟨k, hk, rfl⟩ := List.mem_map.1 ha
    have hk3 := keys_int h k hk
    obtain ⟨a, K⟩ := k
    simp only at hk3
    subst hk3
    have hn := (keys_mem h K).1 hk
    refine (hm.mem _ ⟨K, rfl⟩).2 ?_
    simp only [wantF, hn, Bool.false_eq_true, if_false]
    simp
end Go.Proofs.Ythpnhdopheofcaa

end
section
namespace Go.Proofs.Ythpnhdopheofcaa
open Go.Dx
variable {tbl : Nat → Option CFunc}

theorem number_spec (h : tbl 42 = some cf42) {M : Mem} (n : Int) : CallW tbl 42 (.cons (.int 3 n) .nil) M fun r M' => r = .ret (VlA ⟨3, n⟩) ∧ But (fun _ => False) M M' := by
  refine CallW.wf fun hw => ?_
  refine CallW.intro h rfl (fr := .nod (.val .leaf (.int 3 n) .leaf) .leaf) rfl ?_
  simp only [go_sem, reduceCtorEq, Nat.reduceEqDiff, Nat.reduceAdd, Nat.reduceMul, Nat.reduceLeDiff, Nat.reduceSub, Nat.reduceLT, Nat.reduceBEq, Nat.reduceBNe, Int.reduceBEq, Int.reduceBNe, Int.reduceLT, Int.reduceLE, Int.reduceAdd, Int.reduceEq, Int.reduceNe, beq_self_eq_true, bne_self_eq_false, decide_true, decide_false, Bool.not_true, Bool.not_false, Bool.false_eq_true, false_and, and_false, not_true_eq_false, not_false_eq_true, cf42, VlA]
  exact But.fill hw (.cells [.int 3 0, .int 3 0] false) (.cells [.int 3 3, .int 3 n] false)

/-- The world of the law: a heap with a table, and a map that says the same. -/
structure FnS (M0 M : Mem) (hp tb mp : Pos) (T : Tb) : Prop where
  b : But (fun _ => False) M0 M
  heap : ∃ G, HeapIs M hp (fun p => p.num < M0.next.num ∨ p = tb ∨ p = mp) G ∧ HasT G 1 T
  num : NumT T
  len : T.arr.length + 2 * T.prs.length ≤ 200
  map_ : ∃ es c, M.get mp = some (.map es c) ∧ MapIs (.leaf .int) (fun a => ∃ n, a = .int 3 n) es (wantF T)
  box : M.get tb = some (.cells [.int 3 6, .int 3 1] false)
  tbn : M0.next.num ≤ tb.num
  mpn : M0.next.num ≤ mp.num
  ne : tb ≠ mp
theorem FnS.quiet {M0 M M' : Mem} {hp tb mp : Pos} {T : Tb} (h : FnS M0 M hp tb mp T) (hb : But (fun _ => False) M M') : FnS M0 M' hp tb mp T := by
  obtain ⟨G, h1, h2⟩ := h.heap
  obtain ⟨es, c, h3, h4⟩ := h.map_
  exact ⟨h.b.trans hb, ⟨G, h1.quiet hb, h2⟩, h.num, h.len, ⟨es, c, hb.get _ _ id h3, h4⟩, hb.get _ _ id h.box, h.tbn, h.mpn, h.ne⟩

structure FsT (tbl : Nat → Option CFunc) : Prop extends FnT tbl where
  h42 : tbl 42 = some cf42
  h43 : tbl 43 = some cf43

theorem want_at {T : Tb} {es : ME} (hm : MapIs (.leaf .int) (fun a => ∃ n, a = .int 3 n) es (wantF T)) (K : Int) : es.find (.leaf .int) (.int 3 K) = some (if nullV (T.get ⟨3, K⟩) = true then none else some (.int 3 (T.get ⟨3, K⟩).n)) := by
  rw [hm.find _ ⟨K, rfl⟩]; rfl

theorem finds_c (F : FsT tbl) {M0 M : Mem} {hp tb mp : Pos} {T : Tb} {fr : Tr AV} (hw : M.wf) (S : FnS M0 M hp tb mp T) (f2 : fr.get (.i (.o .h)) = some (.ptr hp 0)) (f3 : fr.get (.o (.i .h)) = some (.ptr tb 0)) (f4 : fr.get (.i (.i .h)) = some (.map mp)) :
    CCode.wp tbl (seqTail 9 cf6.body) fr M (finW cf6.results fun r _ => r = .ret (.bool true)) := by
  obtain ⟨G, hH, hT⟩ := S.heap
  have hbox := S.box
  simp only [go_sem, reduceCtorEq, Nat.reduceEqDiff, Nat.reduceAdd, Nat.reduceMul, Nat.reduceLeDiff, Nat.reduceSub, Nat.reduceLT, Nat.reduceBEq, Nat.reduceBNe, Int.reduceBEq, Int.reduceBNe, Int.reduceLT, Int.reduceLE, Int.reduceAdd, Int.reduceEq, Int.reduceNe, beq_self_eq_true, bne_self_eq_false, decide_true, decide_false, Bool.not_true, Bool.not_false, Bool.false_eq_true, false_and, and_false, not_true_eq_false, not_false_eq_true, cf6, seqTail, f2, f3, hbox]
  refine (len_ok F.toFnT hH hT).use ?_
  rintro r M1 hw1 ⟨rfl, b1⟩
  have S1 := S.quiet b1
  obtain ⟨es, c, m1, m2⟩ := S1.map_
  have hl := S.len
  have e1 : IntKind.i64.wrap ((T.arr.length : Int) + 1) = (T.arr.length : Int) + 1 := wrap64 (by omega) (by omega)
  have k1 := want_at m2 ((T.arr.length : Int) + 1)
  have k2 := want_at m2 (T.arr.length : Int)
  have ok1 : okKey (.leaf .int) (.int 3 ((T.arr.length : Int) + 1)) = true := rfl
  have ok2 : okKey (.leaf .int) (.int 3 (T.arr.length : Int)) = true := rfl
  have hn1 : nullV (T.get ⟨3, (T.arr.length : Int) + 1⟩) = true := by
    cases hv : nullV (T.get ⟨3, (T.arr.length : Int) + 1⟩) with
    | true => rfl
    | false =>
      have := (keys_mem S.num ((T.arr.length : Int) + 1)).2 hv
      simp only [restL, List.drop_zero, List.mem_append, keysA_mem] at this
      rcases this with ⟨j, hj, e, _⟩ | hm
      · have := congrArg Vl.n e; simp only at this; omega
      · obtain ⟨x, hx, e⟩ := List.mem_map.1 hm
        have := S.num.key x hx
        rw [e, placed_false] at this
        exact absurd ⟨rfl, by simp only; omega, by simp only; omega⟩ this
  rw [hn1] at k1
  simp only [if_true] at k1
  have g0 : ((0 : Int) == 0) = true := rfl
  by_cases h0 : T.arr.length = 0
  · have g1 : ((T.arr.length : Int) == 0) = true := by simp [h0]
    cases hv : nullV (T.get ⟨3, (T.arr.length : Int)⟩) with
    | true =>
      rw [hv] at k2
      simp only [if_true] at k2
      simp only [go_sem, reduceCtorEq, Nat.reduceEqDiff, Nat.reduceAdd, Nat.reduceMul, Nat.reduceLeDiff, Nat.reduceSub, Nat.reduceLT, Nat.reduceBEq, Nat.reduceBNe, Int.reduceBEq, Int.reduceBNe, Int.reduceLT, Int.reduceLE, Int.reduceAdd, Int.reduceEq, Int.reduceNe, beq_self_eq_true, bne_self_eq_false, decide_true, decide_false, Bool.not_true, Bool.not_false, Bool.false_eq_true, false_and, and_false, not_true_eq_false, not_false_eq_true, f4, m1, e1, k1, k2, ok1, ok2, g0, g1]
    | false =>
      rw [hv] at k2
      simp only [Bool.false_eq_true, if_false] at k2
      simp only [go_sem, reduceCtorEq, Nat.reduceEqDiff, Nat.reduceAdd, Nat.reduceMul, Nat.reduceLeDiff, Nat.reduceSub, Nat.reduceLT, Nat.reduceBEq, Nat.reduceBNe, Int.reduceBEq, Int.reduceBNe, Int.reduceLT, Int.reduceLE, Int.reduceAdd, Int.reduceEq, Int.reduceNe, beq_self_eq_true, bne_self_eq_false, decide_true, decide_false, Bool.not_true, Bool.not_false, Bool.false_eq_true, false_and, and_false, not_true_eq_false, not_false_eq_true, f4, m1, e1, k1, k2, ok1, ok2, g0, g1]
  · have g1 : ((T.arr.length : Int) == 0) = false := by simp [h0]
    have hn2 : nullV (T.get ⟨3, (T.arr.length : Int)⟩) = false := by
      have hlt : T.arr.length - 1 < T.arr.length := by omega
      have := get_arr (T := T) hlt
      rw [show (((T.arr.length - 1 : Nat) : Int) + 1) = (T.arr.length : Int) by omega] at this
      rw [this]
      have := S.num.last (T.arr[T.arr.length - 1]) (by rw [List.getLast?_eq_getElem?]; exact List.getElem?_eq_getElem hlt)
      simpa [nullV] using this
    rw [hn2] at k2
    simp only [Bool.false_eq_true, if_false] at k2
    simp only [go_sem, reduceCtorEq, Nat.reduceEqDiff, Nat.reduceAdd, Nat.reduceMul, Nat.reduceLeDiff, Nat.reduceSub, Nat.reduceLT, Nat.reduceBEq, Nat.reduceBNe, Int.reduceBEq, Int.reduceBNe, Int.reduceLT, Int.reduceLE, Int.reduceAdd, Int.reduceEq, Int.reduceNe, beq_self_eq_true, bne_self_eq_false, decide_true, decide_false, Bool.not_true, Bool.not_false, Bool.false_eq_true, false_and, and_false, not_true_eq_false, not_false_eq_true, f4, m1, e1, k1, k2, ok1, ok2, g0, g1]
end Go.Proofs.Ythpnhdopheofcaa

end
section
namespace Go.Proofs.Ythpnhdopheofcaa
open Go.Dx
variable {tbl : Nat → Option CFunc}

theorem keysA_len : ∀ (l : List Vl) (i : Nat), (keysA l i).length ≤ l.length
  | [], _ => Nat.le_refl _
  | v :: l, i => by
    unfold keysA
    have := keysA_len l (i + 1)
    split
    · simp only [List.length_cons]; omega
    · simp only [List.length_cons]; omega

theorem okInt (n : Int) : okKey (.leaf .int) (.int 3 n) = true := by simp [okKey, eqKey, eqLeaf]

theorem fbody7 : seqTail 7 cf6.body = .seq (seqHead (seqTail 7 cf6.body)) (.seq (seqHead (seqTail 8 cf6.body)) (seqTail 9 cf6.body)) := rfl

theorem finds_b3 (F : FsT tbl) {M0 M : Mem} {hp tb mp : Pos} {T : Tb} {fr : Tr AV} (hw : M.wf) (S : FnS M0 M hp tb mp T) (f2 : fr.get (.i (.o .h)) = some (.ptr hp 0)) (f3 : fr.get (.o (.i .h)) = some (.ptr tb 0)) (f4 : fr.get (.i (.i .h)) = some (.map mp)) :
    CCode.wp tbl (seqTail 7 cf6.body) fr M (finW cf6.results fun r _ => r = .ret (.bool true)) := by
  have tail := fun (fr : Tr AV) (M2 : Mem) (h : M2.wf) (S : FnS M0 M2 hp tb mp T) (f2 : fr.get (.i (.o .h)) = some (.ptr hp 0)) (f3 : fr.get (.o (.i .h)) = some (.ptr tb 0)) (f4 : fr.get (.i (.i .h)) = some (.map mp)) => finds_c F h S f2 f3 f4
  obtain ⟨G, hH, hT⟩ := S.heap
  obtain ⟨es, c, m1, m2⟩ := S.map_
  have hcnt := want_size S.num m2
  generalize hC : es.size = cnt at *
  have hbox := S.box
  rw [fbody7]
  generalize seqTail 9 cf6.body = tl at *
  simp only [go_sem, reduceCtorEq, Nat.reduceEqDiff, Nat.reduceAdd, Nat.reduceMul, Nat.reduceLeDiff, Nat.reduceSub, Nat.reduceLT, Nat.reduceBEq, Nat.reduceBNe, Int.reduceBEq, Int.reduceBNe, Int.reduceLT, Int.reduceLE, Int.reduceAdd, Int.reduceEq, Int.reduceNe, beq_self_eq_true, bne_self_eq_false, decide_true, decide_false, Bool.not_true, Bool.not_false, Bool.false_eq_true, false_and, and_false, not_true_eq_false, not_false_eq_true, cf6, seqHead, seqTail]
  refine (null43 F.h43).use ?_
  rintro r M1 hw1 ⟨rfl, b1⟩
  have bf := But.fill hw1 (.cells [.int 3 0, .int 3 0] false) (.cells [.int 3 1, .int 3 0] false)
  have wf := hw1.fill (.cells [.int 3 0, .int 3 0] false) (.cells [.int 3 1, .int 3 0] false)
  have xf : ((M1.new (.cells [.int 3 0, .int 3 0] false)).put M1.next (.cells [.int 3 1, .int 3 0] false)).get M1.next = some (.cells [.int 3 1, .int 3 0] false) := by simp [Mem.put]
  simp only [go_sem, reduceCtorEq, Nat.reduceEqDiff, Nat.reduceAdd, Nat.reduceMul, Nat.reduceLeDiff, Nat.reduceSub, Nat.reduceLT, Nat.reduceBEq, Nat.reduceBNe, Int.reduceBEq, Int.reduceBNe, Int.reduceLT, Int.reduceLE, Int.reduceAdd, Int.reduceEq, Int.reduceNe, beq_self_eq_true, bne_self_eq_false, decide_true, decide_false, Bool.not_true, Bool.not_false, Bool.false_eq_true, false_and, and_false, not_true_eq_false, not_false_eq_true, VlA]
  generalize hM2 : (M1.new (.cells [.int 3 0, .int 3 0] false)).put M1.next (.cells [.int 3 1, .int 3 0] false) = M2 at *
  have hkb := b1.next
  generalize hkbe : M1.next = kb at *
  have b12 := b1.trans bf
  refine loop_wp (I := fun n fr M' => n ≤ cnt + 1 ∧ M'.wf ∧ But (fun _ => False) M M' ∧ fr.get (.i (.o .h)) = some (.ptr hp 0) ∧ fr.get (.o (.i .h)) = some (.ptr tb 0) ∧ fr.get (.i (.i .h)) = some (.map mp) ∧ fr.get (.i (.i (.i .h))) = some (.ptr kb 0) ∧ fr.get (.o (.o (.o (.o .h)))) = some (.int 3 ((cnt + 1 - n : Nat) : Int)) ∧ (n = 0 ∨ ∃ k a b, M'.get kb = some (.cells [.int 3 k.k, .int 3 k.n] false) ∧ numV k ∧ T.start k = some (a, b) ∧ a ≤ T.arr.length ∧ b ≤ T.prs.length ∧ (b = 0 ∨ a = T.arr.length) ∧ (restL T a b).length + 1 = n)) (n := cnt + 1) ?_ ?_
  · refine ⟨Nat.le_refl _, wf, b12, ?_, ?_, ?_, ?_, ?_, .inr ⟨⟨1, 0⟩, 0, 0, xf, .inr rfl, ?_, Nat.zero_le _, Nat.zero_le _, .inl rfl, by rw [← hcnt]⟩⟩
    · simp [Tr.get_set, f2]
    · simp [Tr.get_set, f3]
    · simp [Tr.get_set, f4]
    · simp [Tr.get_set]
    · rw [Nat.sub_self]; simp [Tr.get_set]
    · have hno : posP T.prs ⟨1, 0⟩ = none := posP_no fun x hx e => by
        have := (S.num.prs_ x hx).1
        rw [e] at this
        exact absurd this (by decide)
      have hp : placedV ⟨1, 0⟩ T.arr.length = false := by rw [placed_false]; rintro ⟨h, _⟩; exact absurd h (by decide)
      have hn : nullV ⟨1, 0⟩ = true := rfl
      simp only [Tb.start, hno, hp, hn, if_true, Bool.false_eq_true, if_false]
  · rintro n fr M' ⟨i1, i2, i3, f2, f3, f4, f5, f6, i4⟩
    have S' := S.quiet i3
    have mm := i3.get _ _ id m1
    have hmlen : mapLenO M' (.map mp) = some cnt := by simp only [mapLenO, mm, hC]
    cases n with
    | zero =>
      have g : decide (((cnt + 1 - 0 : Nat) : Int) ≤ (cnt : Int)) = false := by simp only [decide_eq_false_iff_not]; omega
      simp only [go_sem, reduceCtorEq, Nat.reduceEqDiff, Nat.reduceAdd, Nat.reduceMul, Nat.reduceLeDiff, Nat.reduceSub, Nat.reduceLT, Nat.reduceBEq, Nat.reduceBNe, Int.reduceBEq, Int.reduceBNe, Int.reduceLT, Int.reduceLE, Int.reduceAdd, Int.reduceEq, Int.reduceNe, beq_self_eq_true, bne_self_eq_false, decide_true, decide_false, Bool.not_true, Bool.not_false, Bool.false_eq_true, false_and, and_false, not_true_eq_false, not_false_eq_true, f2, f3, f4, f5, f6, hmlen, g]
      refine tail _ _ i2 S' ?_ ?_ ?_
      · simp [Tr.get_set, f2]
      · simp [Tr.get_set, f3]
      · simp [Tr.get_set, f4]
    | succ m =>
      obtain ⟨k, a, b, xk, hk, hst, ha, hb, hab, hlen⟩ := i4.resolve_left (by omega)
      have g : decide (((cnt + 1 - (m + 1) : Nat) : Int) ≤ (cnt : Int)) = true := by simp only [decide_eq_true_eq]; omega
      have hbx := S'.box
      simp only [go_sem, reduceCtorEq, Nat.reduceEqDiff, Nat.reduceAdd, Nat.reduceMul, Nat.reduceLeDiff, Nat.reduceSub, Nat.reduceLT, Nat.reduceBEq, Nat.reduceBNe, Int.reduceBEq, Int.reduceBNe, Int.reduceLT, Int.reduceLE, Int.reduceAdd, Int.reduceEq, Int.reduceNe, beq_self_eq_true, bne_self_eq_false, decide_true, decide_false, Bool.not_true, Bool.not_false, Bool.false_eq_true, false_and, and_false, not_true_eq_false, not_false_eq_true, f2, f3, f4, f5, f6, hmlen, g, xk, hbx]
      refine (next_ok F.toFnT (hH.quiet i3) hT (k := k) (numV_may hk).1 (numV_may hk).2.1 hst).use ?_
      rintro r M3 hw3 ⟨rfl, b3⟩
      have S3 := S'.quiet b3
      have k3 := b3.get _ _ id xk
      have m3 := b3.get _ _ id mm
      have hne3 := hw3.ne k3
      have hi : (((cnt + 1 - (m + 1) : Nat) : Int) == (cnt : Int)) = decide (m = 0) := by
        by_cases h : m = 0
        · simp [h]
        · simp only [h, decide_false, beq_eq_false_iff_ne, ne_eq]; omega
      have e9 : IntKind.i64.wrap (((cnt + 1 - (m + 1) : Nat) : Int) + 1) = ((cnt + 1 - m : Nat) : Int) := by
        have : cnt < 2 ^ 62 := by
          rw [hcnt]
          have hl := S.len
          have hk1 : (keysA T.arr 0).length ≤ T.arr.length := keysA_len _ _
          simp only [restL, List.drop_zero, List.length_append, List.length_map]
          omega
        rw [wrap64 (by omega) (by omega)]; omega
      generalize hnv : T.nextV a b = nv at *
      obtain ⟨nk, nn⟩ := nv
      have b4 := But.fill hw3 (.cells [.int 3 0, .int 3 0] false) (.cells [.int 3 nk, .int 3 nn] false)
      have w4 := hw3.fill (.cells [.int 3 0, .int 3 0] false) (.cells [.int 3 nk, .int 3 nn] false)
      have x4 : ((M3.new (.cells [.int 3 0, .int 3 0] false)).put M3.next (.cells [.int 3 nk, .int 3 nn] false)).get M3.next = some (.cells [.int 3 nk, .int 3 nn] false) := by simp [Mem.put]
      simp only [go_sem, reduceCtorEq, Nat.reduceEqDiff, Nat.reduceAdd, Nat.reduceMul, Nat.reduceLeDiff, Nat.reduceSub, Nat.reduceLT, Nat.reduceBEq, Nat.reduceBNe, Int.reduceBEq, Int.reduceBNe, Int.reduceLT, Int.reduceLE, Int.reduceAdd, Int.reduceEq, Int.reduceNe, beq_self_eq_true, bne_self_eq_false, decide_true, decide_false, Bool.not_true, Bool.not_false, Bool.false_eq_true, false_and, and_false, not_true_eq_false, not_false_eq_true, VlA]
      generalize hM4 : (M3.new (.cells [.int 3 0, .int 3 0] false)).put M3.next (.cells [.int 3 nk, .int 3 nn] false) = M4 at *
      generalize hnb : M3.next = nb at *
      refine (null43 F.h43).use ?_
      rintro r M5 hw5 ⟨rfl, b5⟩
      have x5 := b5.get _ _ id x4
      have m4 := b4.get _ _ id m3
      have m5 := b5.get _ _ id m4
      have hml5 : mapLenO M5 (.map mp) = some cnt := by simp only [mapLenO, m5, hC]
      have hml4 : mapLenO M4 (.map mp) = some cnt := by simp only [mapLenO, m4, hC]
      rcases next_law S.num ha hb hab with ⟨hr, hnx⟩ | ⟨k', R, a', b', hr, hnx, hk3', hget, hst', hr', ha', hb', hab'⟩
      · rw [hnv] at hnx
        cases hnx
        rw [hr] at hlen
        have hm0 : m = 0 := by simp only [List.length_nil] at hlen; omega
        have hi' : (((cnt + 1 - (m + 1) : Nat) : Int) == (cnt : Int)) = true := by rw [hi, hm0]; rfl
        have g1 : ((1 : Int) == 1) = true := rfl
        have g0 : ((0 : Int) == 0) = true := rfl
        simp only [go_sem, reduceCtorEq, Nat.reduceEqDiff, Nat.reduceAdd, Nat.reduceMul, Nat.reduceLeDiff, Nat.reduceSub, Nat.reduceLT, Nat.reduceBEq, Nat.reduceBNe, Int.reduceBEq, Int.reduceBNe, Int.reduceLT, Int.reduceLE, Int.reduceAdd, Int.reduceEq, Int.reduceNe, beq_self_eq_true, bne_self_eq_false, decide_true, decide_false, Bool.not_true, Bool.not_false, Bool.false_eq_true, false_and, and_false, not_true_eq_false, not_false_eq_true, VlA, f2, f4, f6, x5, x4, hml5, hml4, hi', g0, g1]
        refine (null43 F.h43).use ?_
        rintro r M6 hw6 ⟨rfl, b6⟩
        have x6 := b6.get _ _ id x5
        have k6 := ((b4.trans b5).trans b6).get _ _ id k3
        simp only [go_sem, reduceCtorEq, Nat.reduceEqDiff, Nat.reduceAdd, Nat.reduceMul, Nat.reduceLeDiff, Nat.reduceSub, Nat.reduceLT, Nat.reduceBEq, Nat.reduceBNe, Int.reduceBEq, Int.reduceBNe, Int.reduceLT, Int.reduceLE, Int.reduceAdd, Int.reduceEq, Int.reduceNe, beq_self_eq_true, bne_self_eq_false, decide_true, decide_false, Bool.not_true, Bool.not_false, Bool.false_eq_true, false_and, and_false, not_true_eq_false, not_false_eq_true, VlA, f5, f6, x5, x6, k6, e9, g0, g1]
        have bk : But (fun _ => False) M (M6.put kb (.cells [.int 3 1, .int 3 0] false)) := But.fresh hw (((i3.trans b3).trans ((b4.trans b5).trans b6)).any _ |>.trans (But.put (p := kb) _ (.inr hkb) _))
        refine ⟨m, by omega, by omega, hw6.put k6 _, bk, ?_, ?_, ?_, ?_, ?_, .inl hm0⟩
        · simp [Tr.get_set, f2]
        · simp [Tr.get_set, f3]
        · simp [Tr.get_set, f4]
        · simp [Tr.get_set, f5]
        · simp [Tr.get_set]
      · rw [hnv] at hnx
        subst hnx
        rw [hr, List.length_cons] at hlen
        have hm0 : ¬ m = 0 := by omega
        have hi' : (((cnt + 1 - (m + 1) : Nat) : Int) == (cnt : Int)) = false := by rw [hi]; simp [hm0]
        simp only at hk3'
        subst hk3'
        have g1 : ((3 : Int) == 1) = false := rfl
        have g3 : ((3 : Int) != 3) = false := rfl
        have g00 : ((((false && (nn == 0)) != false) == false) != true) = false := rfl
        have g01 : ((false && (nn == 0)) != true) = true := rfl
        simp only [go_sem, reduceCtorEq, Nat.reduceEqDiff, Nat.reduceAdd, Nat.reduceMul, Nat.reduceLeDiff, Nat.reduceSub, Nat.reduceLT, Nat.reduceBEq, Nat.reduceBNe, Int.reduceBEq, Int.reduceBNe, Int.reduceLT, Int.reduceLE, Int.reduceAdd, Int.reduceEq, Int.reduceNe, beq_self_eq_true, bne_self_eq_false, decide_true, decide_false, Bool.not_true, Bool.not_false, Bool.false_eq_true, false_and, and_false, not_true_eq_false, not_false_eq_true, VlA, f2, f4, f6, x5, x4, hml5, hml4, hi', g1, g00]
        refine (null43 F.h43).use ?_
        rintro r M6 hw6 ⟨rfl, b6⟩
        have x6 := b6.get _ _ id x5
        have m6 := b6.get _ _ id m5
        have k6 := ((b4.trans b5).trans b6).get _ _ id k3
        have kf := want_at m2 nn
        rw [hget] at kf
        simp only [Bool.false_eq_true, if_false] at kf
        have ok1 : okKey (.leaf .int) (.int 3 nn) = true := okInt nn
        simp only [go_sem, reduceCtorEq, Nat.reduceEqDiff, Nat.reduceAdd, Nat.reduceMul, Nat.reduceLeDiff, Nat.reduceSub, Nat.reduceLT, Nat.reduceBEq, Nat.reduceBNe, Int.reduceBEq, Int.reduceBNe, Int.reduceLT, Int.reduceLE, Int.reduceAdd, Int.reduceEq, Int.reduceNe, beq_self_eq_true, bne_self_eq_false, decide_true, decide_false, Bool.not_true, Bool.not_false, Bool.false_eq_true, false_and, and_false, not_true_eq_false, not_false_eq_true, VlA, f4, f5, f6, x5, x6, k6, m6, e9, g1, g01, g3, kf, ok1]
        have bk : But (fun _ => False) M (M6.put kb (.cells [.int 3 3, .int 3 nn] false)) := But.fresh hw (((i3.trans b3).trans ((b4.trans b5).trans b6)).any _ |>.trans (But.put (p := kb) _ (.inr hkb) _))
        refine ⟨m, by omega, by omega, hw6.put k6 _, bk, ?_, ?_, ?_, ?_, ?_, .inr ⟨⟨3, nn⟩, a', b', by simp [Mem.put], .inl rfl, hst', ha', hb', hab', by rw [hr']; omega⟩⟩
        · simp [Tr.get_set, f2]
        · simp [Tr.get_set, f3]
        · simp [Tr.get_set, f4]
        · simp [Tr.get_set, f5]
        · simp [Tr.get_set]
end Go.Proofs.Ythpnhdopheofcaa

end
section
namespace Go.Proofs.Ythpnhdopheofcaa
open Go.Dx
variable {tbl : Nat → Option CFunc}

theorem get_num {T : Tb} (h : NumT T) (k : Vl) : numV (T.get k) := by
  rw [get_get2]
  unfold get2
  split
  · cases hx : T.arr[(k.n - 1).toNat]? with
    | none => exact .inr rfl
    | some v => exact h.arr_ v (List.mem_of_getElem? hx)
  · cases hx : lookP T.prs k with
    | none => exact .inr rfl
    | some v => exact .inl (h.prs_ _ ((lookP_iff _ _ _ h.once).1 hx)).2

theorem pairL_len (l : List (Int × Int)) : (PairL l).length = l.length := List.length_map _
theorem pair_at {M : Mem} {a : AV} {l : List (Int × Int)} (h : SlIs M a 2 (PairL l)) {i : Nat} (hi : i < l.length) : ∃ p o, slAt a = some (p, o, l.length) ∧ MB.cell (M.get p) (o + i * 2 + 0) = some (.int 3 l[i].1) ∧ MB.cell (M.get p) (o + i * 2 + 1) = some (.int 3 l[i].2) := by
  obtain ⟨p, o, h1, h2⟩ := h.at_ (i := i) (by rw [pairL_len]; exact hi)
  rw [pairL_len] at h1
  have h3 : MB.cellsAt (M.get p) (o + i * 2) 2 = some [.int 3 l[i].1, .int 3 l[i].2] := by
    rw [h2]; simp [PairL, hi]
  refine ⟨p, o, h1, ?_, ?_⟩
  · have := MB.cell_row h3 (j := 0) (by omega); simpa using this
  · have := MB.cell_row h3 (j := 1) (by omega); simpa using this

theorem wf_put {M : Mem} (h : M.wf) {p : Pos} (hp : p.num < M.next.num) (b : MB) : (M.put p b).wf := fun q c hq => by
  have e : (M.put p b).get q = if q = p then some b else M.get q := rfl
  rw [e] at hq
  show q.num < M.next.num
  by_cases hqp : q = p
  · rw [hqp]; exact hp
  · rw [if_neg hqp] at hq; exact h q c hq

theorem fbody6 : seqTail 6 cf6.body = .seq (seqHead (seqTail 6 cf6.body)) (seqTail 7 cf6.body) := rfl

theorem finds_b2 (F : FsT tbl) {M0 M : Mem} {hp tb mp : Pos} {T : Tb} {fr : Tr AV} {sv : AV} {l : List (Int × Int)} (hs : SlIs M0 sv 2 (PairL l)) (hw : M.wf) (S : FnS M0 M hp tb mp T) (f1 : fr.get (.o .h) = some sv) (f2 : fr.get (.i (.o .h)) = some (.ptr hp 0)) (f3 : fr.get (.o (.i .h)) = some (.ptr tb 0)) (f4 : fr.get (.i (.i .h)) = some (.map mp)) :
    CCode.wp tbl (seqTail 6 cf6.body) fr M (finW cf6.results fun r _ => r = .ret (.bool true)) := by
  have tail := fun (fr : Tr AV) (M2 : Mem) (h : M2.wf) (S : FnS M0 M2 hp tb mp T) (f2 : fr.get (.i (.o .h)) = some (.ptr hp 0)) (f3 : fr.get (.o (.i .h)) = some (.ptr tb 0)) (f4 : fr.get (.i (.i .h)) = some (.map mp)) => finds_b3 F h S f2 f3 f4
  obtain ⟨G, hH, hT⟩ := S.heap
  obtain ⟨es, c, m1, m2⟩ := S.map_
  have hlen := hs.len
  rw [pairL_len] at hlen
  have hN : ∃ N, N = min l.length 80 := ⟨_, rfl⟩
  obtain ⟨N, hN⟩ := hN
  rw [fbody6]
  generalize seqTail 7 cf6.body = tl at *
  simp only [go_sem, reduceCtorEq, Nat.reduceEqDiff, Nat.reduceAdd, Nat.reduceMul, Nat.reduceLeDiff, Nat.reduceSub, Nat.reduceLT, Nat.reduceBEq, Nat.reduceBNe, Int.reduceBEq, Int.reduceBNe, Int.reduceLT, Int.reduceLE, Int.reduceAdd, Int.reduceEq, Int.reduceNe, beq_self_eq_true, bne_self_eq_false, decide_true, decide_false, Bool.not_true, Bool.not_false, Bool.false_eq_true, false_and, and_false, not_true_eq_false, not_false_eq_true, cf6, seqHead, seqTail]
  refine loop_wp (I := fun n fr M' => n ≤ N ∧ M'.wf ∧ But (fun _ => False) M M' ∧ fr.get (.o .h) = some sv ∧ fr.get (.i (.o .h)) = some (.ptr hp 0) ∧ fr.get (.o (.i .h)) = some (.ptr tb 0) ∧ fr.get (.i (.i .h)) = some (.map mp) ∧ fr.get (.o (.i (.o .h))) = some (.int 3 ((N - n : Nat) : Int))) (n := N) ?_ ?_
  · refine ⟨Nat.le_refl _, hw, But.refl _ _, ?_, ?_, ?_, ?_, ?_⟩
    · simp [Tr.get_set, f1]
    · simp [Tr.get_set, f2]
    · simp [Tr.get_set, f3]
    · simp [Tr.get_set, f4]
    · rw [Nat.sub_self]; simp [Tr.get_set]
  · rintro n fr M' ⟨i1, i2, i3, f1, f2, f3, f4, f5⟩
    have S' := S.quiet i3
    cases n with
    | zero =>
      by_cases hle : l.length ≤ 80
      · have g1 : decide (((N - 0 : Nat) : Int) < (l.length : Int)) = false := by simp only [decide_eq_false_iff_not]; omega
        simp only [go_sem, reduceCtorEq, Nat.reduceEqDiff, Nat.reduceAdd, Nat.reduceMul, Nat.reduceLeDiff, Nat.reduceSub, Nat.reduceLT, Nat.reduceBEq, Nat.reduceBNe, Int.reduceBEq, Int.reduceBNe, Int.reduceLT, Int.reduceLE, Int.reduceAdd, Int.reduceEq, Int.reduceNe, beq_self_eq_true, bne_self_eq_false, decide_true, decide_false, Bool.not_true, Bool.not_false, Bool.false_eq_true, false_and, and_false, not_true_eq_false, not_false_eq_true, f1, f2, f3, f4, f5, hlen, g1]
        refine tail _ _ i2 S' ?_ ?_ ?_
        · simp [Tr.get_set, f2]
        · simp [Tr.get_set, f3]
        · simp [Tr.get_set, f4]
      · have g1 : decide (((N - 0 : Nat) : Int) < (l.length : Int)) = true := by simp only [decide_eq_true_eq]; omega
        have g2 : decide (((N - 0 : Nat) : Int) < 80) = false := by simp only [decide_eq_false_iff_not]; omega
        simp only [go_sem, reduceCtorEq, Nat.reduceEqDiff, Nat.reduceAdd, Nat.reduceMul, Nat.reduceLeDiff, Nat.reduceSub, Nat.reduceLT, Nat.reduceBEq, Nat.reduceBNe, Int.reduceBEq, Int.reduceBNe, Int.reduceLT, Int.reduceLE, Int.reduceAdd, Int.reduceEq, Int.reduceNe, beq_self_eq_true, bne_self_eq_false, decide_true, decide_false, Bool.not_true, Bool.not_false, Bool.false_eq_true, false_and, and_false, not_true_eq_false, not_false_eq_true, f1, f2, f3, f4, f5, hlen, g1, g2]
        refine tail _ _ i2 S' ?_ ?_ ?_
        · simp [Tr.get_set, f2]
        · simp [Tr.get_set, f3]
        · simp [Tr.get_set, f4]
    | succ n =>
      have g1 : decide (((N - (n + 1) : Nat) : Int) < (l.length : Int)) = true := by simp only [decide_eq_true_eq]; omega
      have g2 : decide (((N - (n + 1) : Nat) : Int) < 80) = true := by simp only [decide_eq_true_eq]; omega
      have hi : N - (n + 1) < l.length := by omega
      obtain ⟨p, po, a1, a2, a3⟩ := pair_at (hs.old (S.b.trans i3).old) hi
      have e9 : IntKind.i64.wrap (((N - (n + 1) : Nat) : Int) + 1) = ((N - n : Nat) : Int) := by rw [wrap64 (by omega) (by omega)]; omega
      generalize hkv : l[N - (n + 1)] = kv at *
      obtain ⟨K, V⟩ := kv
      simp only at a2 a3
      simp only [go_sem, reduceCtorEq, Nat.reduceEqDiff, Nat.reduceAdd, Nat.reduceMul, Nat.reduceLeDiff, Nat.reduceSub, Nat.reduceLT, Nat.reduceBEq, Nat.reduceBNe, Int.reduceBEq, Int.reduceBNe, Int.reduceLT, Int.reduceLE, Int.reduceAdd, Int.reduceEq, Int.reduceNe, beq_self_eq_true, bne_self_eq_false, decide_true, decide_false, Bool.not_true, Bool.not_false, Bool.false_eq_true, false_and, and_false, not_true_eq_false, not_false_eq_true, f1, f2, f3, f4, f5, hlen, g1, g2, hi, a1, a2]
      refine (number_spec F.h42 K).use ?_
      rintro r M1 hw1 ⟨rfl, b10⟩
      have b1s : But (fun _ => False) M' ⟨M'.next.succ, M'.get⟩ := ⟨by show M'.next.num ≤ M'.next.succ.num; rw [Pos.num_succ]; omega, fun _ _ _ h => h⟩
      have b1 := b1s.trans b10
      have hn1 := b10.next
      have hns : M'.next.succ.num = M'.next.num + 1 := Pos.num_succ _
      have S1 := S'.quiet b1
      have hbx := S'.box
      have hbx1 := S1.box
      simp only [go_sem, reduceCtorEq, Nat.reduceEqDiff, Nat.reduceAdd, Nat.reduceMul, Nat.reduceLeDiff, Nat.reduceSub, Nat.reduceLT, Nat.reduceBEq, Nat.reduceBNe, Int.reduceBEq, Int.reduceBNe, Int.reduceLT, Int.reduceLE, Int.reduceAdd, Int.reduceEq, Int.reduceNe, beq_self_eq_true, bne_self_eq_false, decide_true, decide_false, Bool.not_true, Bool.not_false, Bool.false_eq_true, false_and, and_false, not_true_eq_false, not_false_eq_true, f2, f3, hbx, hbx1, VlA]
      refine (get_ok F.toFnT ⟨3, K⟩ (hH.quiet (i3.trans b1)) hT).use ?_
      rintro r M2 hw2 ⟨rfl, b2⟩
      have hn2 := b2.next
      have m12 : M'.next.num < M2.next.num := by
        have : M'.next.succ.num ≤ M1.next.num := hn1
        omega
      have mlt : M'.next.num < M'.next.succ.num := by omega
      have mlt1 : M'.next.num < M1.next.num := by
        have : M'.next.succ.num ≤ M1.next.num := hn1
        omega
      have hg := get_num S.num ⟨3, K⟩
      have hwt := want_at m2 K
      generalize hgv : T.get ⟨3, K⟩ = gv at *
      obtain ⟨gk, gn⟩ := gv
      have bb2 := b1.trans b2
      have b4 : But (fun _ => False) M' ((M2.put M'.next (.cells [.int 3 0, .int 3 0] false)).put M'.next (.cells [.int 3 gk, .int 3 gn] false)) :=
        But.fresh i2 ((bb2.any _).trans ((But.put (p := M'.next) _ (.inr (Nat.le_refl _)) _).trans (But.put (p := M'.next) _ (.inr (Nat.le_refl _)) _)))
      have w4 : ((M2.put M'.next (.cells [.int 3 0, .int 3 0] false)).put M'.next (.cells [.int 3 gk, .int 3 gn] false)).wf := wf_put (wf_put hw2 m12 _) m12 _
      have x4 : ((M2.put M'.next (.cells [.int 3 0, .int 3 0] false)).put M'.next (.cells [.int 3 gk, .int 3 gn] false)).get M'.next = some (.cells [.int 3 gk, .int 3 gn] false) := by simp [Mem.put]
      obtain ⟨p', po', a1', a2', a3'⟩ := pair_at (hs.old (S.b.trans (i3.trans b4)).old) hi
      rw [a1] at a1'
      cases a1'
      rw [hkv] at a2' a3'
      simp only at a2' a3'
      have m4 := (i3.trans b4).get _ _ id m1
      have ok1 := okInt K
      have g0 : ((0 : Int) != 0) = false := rfl
      have gff : (false != false) = false := rfl
      simp only [go_sem, reduceCtorEq, Nat.reduceEqDiff, Nat.reduceAdd, Nat.reduceMul, Nat.reduceLeDiff, Nat.reduceSub, Nat.reduceLT, Nat.reduceBEq, Nat.reduceBNe, Int.reduceBEq, Int.reduceBNe, Int.reduceLT, Int.reduceLE, Int.reduceAdd, Int.reduceEq, Int.reduceNe, beq_self_eq_true, bne_self_eq_false, decide_true, decide_false, Bool.not_true, Bool.not_false, Bool.false_eq_true, false_and, and_false, not_true_eq_false, not_false_eq_true, VlA, m12, mlt, mlt1]
      generalize hM4 : (M2.put M'.next (.cells [.int 3 0, .int 3 0] false)).put M'.next (.cells [.int 3 gk, .int 3 gn] false) = M4 at *
      generalize hvb : M'.next = vb at *
      cases hv : nullV ⟨gk, gn⟩ with
      | true =>
        rw [hv] at hwt
        simp only [if_true] at hwt
        have he : (⟨gk, gn⟩ : Vl) = ⟨1, 0⟩ := by simpa [nullV] using hv
        cases he
        have g5 : ((((1 : Int) == 1) && ((0 : Int) == 0)) != true) = false := rfl
        simp only [go_sem, reduceCtorEq, Nat.reduceEqDiff, Nat.reduceAdd, Nat.reduceMul, Nat.reduceLeDiff, Nat.reduceSub, Nat.reduceLT, Nat.reduceBEq, Nat.reduceBNe, Int.reduceBEq, Int.reduceBNe, Int.reduceLT, Int.reduceLE, Int.reduceAdd, Int.reduceEq, Int.reduceNe, beq_self_eq_true, bne_self_eq_false, decide_true, decide_false, Bool.not_true, Bool.not_false, Bool.false_eq_true, false_and, and_false, not_true_eq_false, not_false_eq_true, f1, f4, f5, a1, hi, a2', m4, hwt, ok1, g0]
        refine (null43 F.h43).use ?_
        rintro r M5 hw5 ⟨rfl, b5⟩
        have x5 := b5.get _ _ id x4
        simp only [go_sem, reduceCtorEq, Nat.reduceEqDiff, Nat.reduceAdd, Nat.reduceMul, Nat.reduceLeDiff, Nat.reduceSub, Nat.reduceLT, Nat.reduceBEq, Nat.reduceBNe, Int.reduceBEq, Int.reduceBNe, Int.reduceLT, Int.reduceLE, Int.reduceAdd, Int.reduceEq, Int.reduceNe, beq_self_eq_true, bne_self_eq_false, decide_true, decide_false, Bool.not_true, Bool.not_false, Bool.false_eq_true, false_and, and_false, not_true_eq_false, not_false_eq_true, VlA, x4, x5, g5, f5, e9]
        refine ⟨n, by omega, by omega, hw5, i3.trans (b4.trans b5), ?_, ?_, ?_, ?_, ?_⟩
        · simp [Tr.get_set, f1]
        · simp [Tr.get_set, f2]
        · simp [Tr.get_set, f3]
        · simp [Tr.get_set, f4]
        · simp [Tr.get_set]
      | false =>
        rw [hv] at hwt
        simp only [Bool.false_eq_true, if_false] at hwt
        have hg3 : gk = 3 := by
          rcases hg with hg | hg
          · exact hg
          · rw [hg] at hv; exact absurd hv (by decide)
        subst hg3
        have g5 : ((((3 : Int) == 3) && (gn == gn)) != true) = false := by simp
        simp only [go_sem, reduceCtorEq, Nat.reduceEqDiff, Nat.reduceAdd, Nat.reduceMul, Nat.reduceLeDiff, Nat.reduceSub, Nat.reduceLT, Nat.reduceBEq, Nat.reduceBNe, Int.reduceBEq, Int.reduceBNe, Int.reduceLT, Int.reduceLE, Int.reduceAdd, Int.reduceEq, Int.reduceNe, beq_self_eq_true, bne_self_eq_false, decide_true, decide_false, Bool.not_true, Bool.not_false, Bool.false_eq_true, false_and, and_false, not_true_eq_false, not_false_eq_true, f1, f4, f5, a1, hi, a2', m4, hwt, ok1, g0]
        refine (number_spec F.h42 gn).use ?_
        rintro r M5 hw5 ⟨rfl, b5⟩
        have x5 := b5.get _ _ id x4
        simp only [go_sem, reduceCtorEq, Nat.reduceEqDiff, Nat.reduceAdd, Nat.reduceMul, Nat.reduceLeDiff, Nat.reduceSub, Nat.reduceLT, Nat.reduceBEq, Nat.reduceBNe, Int.reduceBEq, Int.reduceBNe, Int.reduceLT, Int.reduceLE, Int.reduceAdd, Int.reduceEq, Int.reduceNe, beq_self_eq_true, bne_self_eq_false, decide_true, decide_false, Bool.not_true, Bool.not_false, Bool.false_eq_true, false_and, and_false, not_true_eq_false, not_false_eq_true, VlA, x4, x5, g5, f5, e9]
        refine ⟨n, by omega, by omega, hw5, i3.trans (b4.trans b5), ?_, ?_, ?_, ?_, ?_⟩
        · simp [Tr.get_set, f1]
        · simp [Tr.get_set, f2]
        · simp [Tr.get_set, f3]
        · simp [Tr.get_set, f4]
        · simp [Tr.get_set]
end Go.Proofs.Ythpnhdopheofcaa

end
section
namespace Go.Proofs.Ythpnhdopheofcaa
open Go.Dx
variable {tbl : Nat → Option CFunc}

theorem fbody5 : seqTail 5 cf6.body = .seq (seqHead (seqTail 5 cf6.body)) (seqTail 6 cf6.body) := rfl

theorem want_put {T : Tb} {K : Int} {v : Vl} (hg : ∀ k', (T.put ⟨3, K⟩ v).get k' = if k' = ⟨3, K⟩ then v else T.get k') : ∀ a, (∃ n, a = AV.int 3 n) → updF (wantF T) (.int 3 K) (if nullV v = true then none else some (.int 3 v.n)) a = wantF (T.put ⟨3, K⟩ v) a := by
  rintro a ⟨n, rfl⟩
  by_cases e : n = K
  · subst e
    rw [updF_same]
    simp only [wantF, hg, if_true]
  · have hne : AV.int 3 n ≠ AV.int 3 K := by simpa using e
    rw [updF_ne _ _ hne]
    have hne' : (⟨3, n⟩ : Vl) ≠ ⟨3, K⟩ := by simpa using e
    simp only [wantF, hg, hne', if_false]

theorem thereV_num {G : Hp} {v : Vl} (h : numV v) : thereV G v = true := by
  obtain ⟨h1, h2, h3⟩ := numV_may h
  simp [thereV, h1, h2, h3]

theorem slots_len (T : Tb) : T.slots.length = T.arr.length + 2 * T.prs.length + 2 := by simp only [Tb.slots, List.length_cons, List.length_append, flatP_len]

/-- A put, in the law's world: the table and the map together. -/
theorem fns_put (F : FsT tbl) {M0 M M1 : Mem} {hp tb mp : Pos} {T : Tb} {K : Int} {v : Vl} (hv : numV v) (hw0 : M0.wf) (S : FnS M0 M hp tb mp T) (hl : T.arr.length + 2 * T.prs.length ≤ 198) {es' : ME} {c' : Nat} (b : But (fun p => p = mp) M M1) (w1 : M1.wf) (hm : M1.get mp = some (.map es' c')) (hm' : MapIs (.leaf .int) (fun a => ∃ n, a = .int 3 n) es' (wantF (T.put ⟨3, K⟩ v))) :
    CallW tbl 44 (.cons (.ptr hp 0) (.cons (VlA ⟨6, 1⟩) (.cons (VlA ⟨3, K⟩) (.cons (VlA v) .nil)))) M1 fun r M' => r = .ret (.int 3 0) ∧ FnS M0 M' hp tb mp (T.put ⟨3, K⟩ v) := by
  obtain ⟨G, hH, hT⟩ := S.heap
  have hsl := slots_len T
  obtain ⟨hn, hg⟩ := put_law S.num (k := ⟨3, K⟩) rfl hv
  have hput := putT_len T.arr T.prs ⟨3, K⟩ v
  have hlen : (T.put ⟨3, K⟩ v).arr.length + 2 * (T.put ⟨3, K⟩ v).prs.length ≤ 200 := by
    show (putT T.arr T.prs ⟨3, K⟩ v).1.length + 2 * (putT T.arr T.prs ⟨3, K⟩ v).2.length ≤ 200
    omega
  have hH1 : HeapIs M1 hp _ G := hH.frame (b.mono fun p e => .inr (.inr e))
  refine (tput_ok F.toFnT ⟨3, K⟩ v hH1 hT (by omega) (fun x hx => (numV_may (S.num.arr_ x hx)).2.2) (fun x hx => ⟨(numV_may (.inl (S.num.prs_ x hx).1)).2.2, (numV_may (.inl (S.num.prs_ x hx).2)).2.2⟩) (numV_may (.inl rfl)).2.2 (by simp [keyV, mayV]) (numV_may (.inl rfl)).1 (numV_may hv).1 (numV_may hv).2.1 (fun x hx => thereV_num (hn.slots x hx))).use ?_
  rintro r M' hw' ⟨rfl, hH', b'⟩
  have hP : ∀ p, ¬ (p.num < M0.next.num ∨ p = tb ∨ p = mp) → M0.next.num ≤ p.num := fun p hp => by
    by_cases h : p.num < M0.next.num
    · exact absurd (.inl h) hp
    · omega
  have hsl' := slots_len (T.put ⟨3, K⟩ v)
  obtain ⟨o, ho, hk, hs⟩ := hT.obj
  refine ⟨rfl, But.fresh hw0 ((S.b.any _).trans ((b.mono fun p e => .inr (by rw [e]; exact S.mpn)).trans (b'.mono fun p hp => .inr (hP p hp)))), ⟨_, hH', hT.may, ⟨{ o with slots := (T.put ⟨3, K⟩ v).slots }, ?_, hk, rfl⟩, hn.ok (by omega)⟩, hn, hlen, ⟨es', c', b'.get _ _ (fun h => h (.inr (.inr rfl))) hm, hm'⟩, b'.get _ _ (fun h => h (.inr (.inl rfl))) (b.get _ _ S.ne S.box), S.tbn, S.mpn, S.ne⟩
  simp only [layG, ho, Option.map_some]
  simp [upd]

theorem finds_b1 (F : FsT tbl) {M0 M : Mem} {hp tb mp : Pos} {T : Tb} {fr : Tr AV} {sv : AV} {l : List (Int × Int)} (hs : SlIs M0 sv 2 (PairL l)) (hw0 : M0.wf) (hw : M.wf) (S : FnS M0 M hp tb mp T) (hT0 : T.arr = [] ∧ T.prs = []) (f1 : fr.get (.o .h) = some sv) (f2 : fr.get (.i (.o .h)) = some (.ptr hp 0)) (f3 : fr.get (.o (.i .h)) = some (.ptr tb 0)) (f4 : fr.get (.i (.i .h)) = some (.map mp)) :
    CCode.wp tbl (seqTail 5 cf6.body) fr M (finW cf6.results fun r _ => r = .ret (.bool true)) := by
  have tail := fun (T : Tb) (fr : Tr AV) (M2 : Mem) (h : M2.wf) (S : FnS M0 M2 hp tb mp T) (f1 : fr.get (.o .h) = some sv) (f2 : fr.get (.i (.o .h)) = some (.ptr hp 0)) (f3 : fr.get (.o (.i .h)) = some (.ptr tb 0)) (f4 : fr.get (.i (.i .h)) = some (.map mp)) => finds_b2 F hs h S f1 f2 f3 f4
  have hlen := hs.len
  rw [pairL_len] at hlen
  have hN : ∃ N, N = min l.length 80 := ⟨_, rfl⟩
  obtain ⟨N, hN⟩ := hN
  rw [fbody5]
  generalize seqTail 6 cf6.body = tl at *
  simp only [go_sem, reduceCtorEq, Nat.reduceEqDiff, Nat.reduceAdd, Nat.reduceMul, Nat.reduceLeDiff, Nat.reduceSub, Nat.reduceLT, Nat.reduceBEq, Nat.reduceBNe, Int.reduceBEq, Int.reduceBNe, Int.reduceLT, Int.reduceLE, Int.reduceAdd, Int.reduceEq, Int.reduceNe, beq_self_eq_true, bne_self_eq_false, decide_true, decide_false, Bool.not_true, Bool.not_false, Bool.false_eq_true, false_and, and_false, not_true_eq_false, not_false_eq_true, cf6, seqHead, seqTail]
  refine loop_wp (I := fun n fr M' => n ≤ N ∧ M'.wf ∧ (∃ T, FnS M0 M' hp tb mp T ∧ T.arr.length + 2 * T.prs.length ≤ 2 * (N - n)) ∧ fr.get (.o .h) = some sv ∧ fr.get (.i (.o .h)) = some (.ptr hp 0) ∧ fr.get (.o (.i .h)) = some (.ptr tb 0) ∧ fr.get (.i (.i .h)) = some (.map mp) ∧ fr.get (.o (.o (.o .h))) = some (.int 3 ((N - n : Nat) : Int))) (n := N) ?_ ?_
  · refine ⟨Nat.le_refl _, hw, ⟨T, S, by rw [hT0.1, hT0.2]; simp⟩, ?_, ?_, ?_, ?_, ?_⟩
    · simp [Tr.get_set, f1]
    · simp [Tr.get_set, f2]
    · simp [Tr.get_set, f3]
    · simp [Tr.get_set, f4]
    · rw [Nat.sub_self]; simp [Tr.get_set]
  · rintro n fr M' ⟨i1, i2, ⟨T, S', i3⟩, f1, f2, f3, f4, f5⟩
    cases n with
    | zero =>
      by_cases hle : l.length ≤ 80
      · have g1 : decide (((N - 0 : Nat) : Int) < (l.length : Int)) = false := by simp only [decide_eq_false_iff_not]; omega
        simp only [go_sem, reduceCtorEq, Nat.reduceEqDiff, Nat.reduceAdd, Nat.reduceMul, Nat.reduceLeDiff, Nat.reduceSub, Nat.reduceLT, Nat.reduceBEq, Nat.reduceBNe, Int.reduceBEq, Int.reduceBNe, Int.reduceLT, Int.reduceLE, Int.reduceAdd, Int.reduceEq, Int.reduceNe, beq_self_eq_true, bne_self_eq_false, decide_true, decide_false, Bool.not_true, Bool.not_false, Bool.false_eq_true, false_and, and_false, not_true_eq_false, not_false_eq_true, f1, f2, f3, f4, f5, hlen, g1]
        refine tail _ _ _ i2 S' ?_ ?_ ?_ ?_
        · simp [Tr.get_set, f1]
        · simp [Tr.get_set, f2]
        · simp [Tr.get_set, f3]
        · simp [Tr.get_set, f4]
      · have g1 : decide (((N - 0 : Nat) : Int) < (l.length : Int)) = true := by simp only [decide_eq_true_eq]; omega
        have g2 : decide (((N - 0 : Nat) : Int) < 80) = false := by simp only [decide_eq_false_iff_not]; omega
        simp only [go_sem, reduceCtorEq, Nat.reduceEqDiff, Nat.reduceAdd, Nat.reduceMul, Nat.reduceLeDiff, Nat.reduceSub, Nat.reduceLT, Nat.reduceBEq, Nat.reduceBNe, Int.reduceBEq, Int.reduceBNe, Int.reduceLT, Int.reduceLE, Int.reduceAdd, Int.reduceEq, Int.reduceNe, beq_self_eq_true, bne_self_eq_false, decide_true, decide_false, Bool.not_true, Bool.not_false, Bool.false_eq_true, false_and, and_false, not_true_eq_false, not_false_eq_true, f1, f2, f3, f4, f5, hlen, g1, g2]
        refine tail _ _ _ i2 S' ?_ ?_ ?_ ?_
        · simp [Tr.get_set, f1]
        · simp [Tr.get_set, f2]
        · simp [Tr.get_set, f3]
        · simp [Tr.get_set, f4]
    | succ n =>
      have g1 : decide (((N - (n + 1) : Nat) : Int) < (l.length : Int)) = true := by simp only [decide_eq_true_eq]; omega
      have g2 : decide (((N - (n + 1) : Nat) : Int) < 80) = true := by simp only [decide_eq_true_eq]; omega
      have hi : N - (n + 1) < l.length := by omega
      obtain ⟨p, po, a1, a2, a3⟩ := pair_at (hs.old S'.b.old) hi
      have e9 : IntKind.i64.wrap (((N - (n + 1) : Nat) : Int) + 1) = ((N - n : Nat) : Int) := by rw [wrap64 (by omega) (by omega)]; omega
      generalize hkv : l[N - (n + 1)] = kv at *
      obtain ⟨K, V⟩ := kv
      simp only at a2 a3
      simp only [go_sem, reduceCtorEq, Nat.reduceEqDiff, Nat.reduceAdd, Nat.reduceMul, Nat.reduceLeDiff, Nat.reduceSub, Nat.reduceLT, Nat.reduceBEq, Nat.reduceBNe, Int.reduceBEq, Int.reduceBNe, Int.reduceLT, Int.reduceLE, Int.reduceAdd, Int.reduceEq, Int.reduceNe, beq_self_eq_true, bne_self_eq_false, decide_true, decide_false, Bool.not_true, Bool.not_false, Bool.false_eq_true, false_and, and_false, not_true_eq_false, not_false_eq_true, f1, f2, f3, f4, f5, hlen, g1, g2, hi, a1, a3]
      refine (number_spec F.h42 V).use ?_
      rintro r M1 hw1 ⟨rfl, b1⟩
      have S1 := S'.quiet b1
      have b2 := But.fill hw1 (.cells [.int 3 0, .int 3 0] false) (.cells [.int 3 3, .int 3 V] false)
      have w2 := hw1.fill (.cells [.int 3 0, .int 3 0] false) (.cells [.int 3 3, .int 3 V] false)
      have x2 : ((M1.new (.cells [.int 3 0, .int 3 0] false)).put M1.next (.cells [.int 3 3, .int 3 V] false)).get M1.next = some (.cells [.int 3 3, .int 3 V] false) := by simp [Mem.put]
      have S2 := S1.quiet b2
      obtain ⟨p', po', a1', a21, a31⟩ := pair_at (hs.old S1.b.old) hi
      rw [a1] at a1'
      cases a1'
      rw [hkv] at a21 a31
      simp only at a21 a31
      have hbp : ∃ bp, M1.get p = some bp := by
        cases hx : M1.get p with
        | none => rw [hx] at a31; cases a31
        | some bp => exact ⟨bp, rfl⟩
      obtain ⟨bp, hbp⟩ := hbp
      have ne1 := hw1.ne hbp
      obtain ⟨p', po', a1', a2', a3'⟩ := pair_at (hs.old S2.b.old) hi
      rw [a1] at a1'
      cases a1'
      rw [hkv] at a2' a3'
      simp only at a2' a3'
      simp only [go_sem, reduceCtorEq, Nat.reduceEqDiff, Nat.reduceAdd, Nat.reduceMul, Nat.reduceLeDiff, Nat.reduceSub, Nat.reduceLT, Nat.reduceBEq, Nat.reduceBNe, Int.reduceBEq, Int.reduceBNe, Int.reduceLT, Int.reduceLE, Int.reduceAdd, Int.reduceEq, Int.reduceNe, beq_self_eq_true, bne_self_eq_false, decide_true, decide_false, Bool.not_true, Bool.not_false, Bool.false_eq_true, false_and, and_false, not_true_eq_false, not_false_eq_true, VlA, f1, f5, a1, hi, ne1, a31]
      generalize hM2 : (M1.new (.cells [.int 3 0, .int 3 0] false)).put M1.next (.cells [.int 3 3, .int 3 V] false) = M2 at *
      generalize hvb : M1.next = vb at *
      have hpm : (p = mp) = False := by
        obtain ⟨p', po', a1', a20, a30⟩ := pair_at hs hi
        rw [a1] at a1'
        cases a1'
        have hbp : ∃ bp, M0.get p = some bp := by
          cases hx : M0.get p with
          | none => rw [hx] at a30; cases a30
          | some bp => exact ⟨bp, rfl⟩
        obtain ⟨bp, hbp⟩ := hbp
        exact Pos.ne_of_lt (Nat.lt_of_lt_of_le (hw0 _ _ hbp) S'.mpn)
      by_cases hV : V < 0
      · have g3 : decide (V < 0) = true := by simp [hV]
        simp only [go_sem, reduceCtorEq, Nat.reduceEqDiff, Nat.reduceAdd, Nat.reduceMul, Nat.reduceLeDiff, Nat.reduceSub, Nat.reduceLT, Nat.reduceBEq, Nat.reduceBNe, Int.reduceBEq, Int.reduceBNe, Int.reduceLT, Int.reduceLE, Int.reduceAdd, Int.reduceEq, Int.reduceNe, beq_self_eq_true, bne_self_eq_false, decide_true, decide_false, Bool.not_true, Bool.not_false, Bool.false_eq_true, false_and, and_false, not_true_eq_false, not_false_eq_true, g3]
        refine (null43 F.h43).use ?_
        rintro r M3 hw3 ⟨rfl, b3⟩
        have x3 := b3.get _ _ id x2
        have b4 : But (fun _ => False) M1 (M3.put vb (.cells [.int 3 1, .int 3 0] false)) := But.fresh hw1 (((b2.trans b3).any _).trans (But.put (p := vb) _ (.inr (by rw [hvb]; exact Nat.le_refl _)) _))
        have S4 := S1.quiet b4
        have w4 := hw3.put x3 (.cells [.int 3 1, .int 3 0] false)
        have x4 : (M3.put vb (.cells [.int 3 1, .int 3 0] false)).get vb = some (.cells [.int 3 1, .int 3 0] false) := by simp [Mem.put]
        simp only [go_sem, reduceCtorEq, Nat.reduceEqDiff, Nat.reduceAdd, Nat.reduceMul, Nat.reduceLeDiff, Nat.reduceSub, Nat.reduceLT, Nat.reduceBEq, Nat.reduceBNe, Int.reduceBEq, Int.reduceBNe, Int.reduceLT, Int.reduceLE, Int.reduceAdd, Int.reduceEq, Int.reduceNe, beq_self_eq_true, bne_self_eq_false, decide_true, decide_false, Bool.not_true, Bool.not_false, Bool.false_eq_true, false_and, and_false, not_true_eq_false, not_false_eq_true, VlA, x3]
        generalize hM4 : M3.put vb (.cells [.int 3 1, .int 3 0] false) = M4 at *
        obtain ⟨p', po', a1', a24, a34⟩ := pair_at (hs.old S4.b.old) hi
        rw [a1] at a1'
        cases a1'
        rw [hkv] at a24 a34
        simp only at a24 a34
        obtain ⟨es, c, m1, m2⟩ := S4.map_
        obtain ⟨es', d1, d2⟩ := m2.del (goodInt 3) (a := .int 3 K) ⟨K, rfl⟩
        have ok1 := okInt K
        have b5 : But (fun p => p = mp) M4 (M4.put mp (.map es' c)) := But.put (S := fun p => p = mp) (p := mp) _ rfl _
        have w5 := w4.put m1 (.map es' c)
        have y5 := b5.get _ _ (fun e => S4.ne e) S4.box
        have hm5 : (M4.put mp (.map es' c)).get mp = some (.map es' c) := by simp [Mem.put]
        have hvm : vb ≠ mp := fun e => by
          obtain ⟨_, _, q1, _⟩ := S1.map_
          have := hw1 _ _ q1
          rw [← hvb] at e
          rw [← e] at this
          omega
        have x5 := b5.get _ _ hvm x4
        have r5 : MB.cell ((M4.put mp (.map es' c)).get p) (po + (N - (n + 1)) * 2 + 0) = some (.int 3 K) := by
          have e : (M4.put mp (.map es' c)).get p = M4.get p := by simp [Mem.put, hpm]
          rw [e]; exact a24
        simp only [go_sem, reduceCtorEq, Nat.reduceEqDiff, Nat.reduceAdd, Nat.reduceMul, Nat.reduceLeDiff, Nat.reduceSub, Nat.reduceLT, Nat.reduceBEq, Nat.reduceBNe, Int.reduceBEq, Int.reduceBNe, Int.reduceLT, Int.reduceLE, Int.reduceAdd, Int.reduceEq, Int.reduceNe, beq_self_eq_true, bne_self_eq_false, decide_true, decide_false, Bool.not_true, Bool.not_false, Bool.false_eq_true, false_and, and_false, not_true_eq_false, not_false_eq_true, f1, f4, f5, a1, hi, a24, a34, m1, d1, ok1, hpm]
        generalize hM5 : M4.put mp (.map es' c) = M5 at *
        refine (number_spec F.h42 K).use ?_
        rintro r M6 hw6 ⟨rfl, b6⟩
        have y6 := b6.get _ _ id y5
        have x6 := b6.get _ _ id x5
        have m6 := b6.get _ _ id hm5
        have b56 := b5.trans (b6.any _)
        simp only [go_sem, reduceCtorEq, Nat.reduceEqDiff, Nat.reduceAdd, Nat.reduceMul, Nat.reduceLeDiff, Nat.reduceSub, Nat.reduceLT, Nat.reduceBEq, Nat.reduceBNe, Int.reduceBEq, Int.reduceBNe, Int.reduceLT, Int.reduceLE, Int.reduceAdd, Int.reduceEq, Int.reduceNe, beq_self_eq_true, bne_self_eq_false, decide_true, decide_false, Bool.not_true, Bool.not_false, Bool.false_eq_true, false_and, and_false, not_true_eq_false, not_false_eq_true, VlA, f2, f3, y5, y6, x5, x6]
        refine (fns_put F (K := K) (v := ⟨1, 0⟩) (.inr rfl) hw0 S4 (by omega) b56 hw6 m6 (d2.congr (want_put (T := T) (K := K) (v := ⟨1, 0⟩) (put_law S4.num rfl (.inr rfl)).2))).use ?_
        rintro r M7 hw7 ⟨rfl, S7⟩
        have g9 : ((0 : Int) != 0) = false := rfl
        simp only [go_sem, reduceCtorEq, Nat.reduceEqDiff, Nat.reduceAdd, Nat.reduceMul, Nat.reduceLeDiff, Nat.reduceSub, Nat.reduceLT, Nat.reduceBEq, Nat.reduceBNe, Int.reduceBEq, Int.reduceBNe, Int.reduceLT, Int.reduceLE, Int.reduceAdd, Int.reduceEq, Int.reduceNe, beq_self_eq_true, bne_self_eq_false, decide_true, decide_false, Bool.not_true, Bool.not_false, Bool.false_eq_true, false_and, and_false, not_true_eq_false, not_false_eq_true, g9, f5, e9]
        have hput := putT_len T.arr T.prs ⟨3, K⟩ ⟨1, 0⟩
        refine ⟨n, by omega, by omega, hw7, ⟨_, S7, ?_⟩, ?_, ?_, ?_, ?_, ?_⟩
        · show (putT T.arr T.prs ⟨3, K⟩ ⟨1, 0⟩).1.length + 2 * (putT T.arr T.prs ⟨3, K⟩ ⟨1, 0⟩).2.length ≤ _
          omega
        · simp [Tr.get_set, f1]
        · simp [Tr.get_set, f2]
        · simp [Tr.get_set, f3]
        · simp [Tr.get_set, f4]
        · simp [Tr.get_set]
      · have g3 : decide (V < 0) = false := by simp [hV]
        have b4 := b2
        have S4 := S2
        have w4 := w2
        have x4 := x2
        have a24 := a2'
        have a34 := a3'
        obtain ⟨es, c, m1, m2⟩ := S4.map_
        obtain ⟨es', frr, d1, d2⟩ := m2.put (goodInt 3) (a := .int 3 K) (v := .int 3 V) ⟨K, rfl⟩ c
        have ok1 := okInt K
        simp only [go_sem, reduceCtorEq, Nat.reduceEqDiff, Nat.reduceAdd, Nat.reduceMul, Nat.reduceLeDiff, Nat.reduceSub, Nat.reduceLT, Nat.reduceBEq, Nat.reduceBNe, Int.reduceBEq, Int.reduceBNe, Int.reduceLT, Int.reduceLE, Int.reduceAdd, Int.reduceEq, Int.reduceNe, beq_self_eq_true, bne_self_eq_false, decide_true, decide_false, Bool.not_true, Bool.not_false, Bool.false_eq_true, false_and, and_false, not_true_eq_false, not_false_eq_true, g3]
        have b5 : But (fun p => p = mp) M2 (M2.put mp (.map es' (if frr = true then c + 1 else c))) := But.put (S := fun p => p = mp) (p := mp) _ rfl _
        have w5 := w4.put m1 (.map es' (if frr = true then c + 1 else c))
        have y5 := b5.get _ _ (fun e => S4.ne e) S4.box
        have hm5 : (M2.put mp (.map es' (if frr = true then c + 1 else c))).get mp = some (.map es' (if frr = true then c + 1 else c)) := by simp [Mem.put]
        have hvm : vb ≠ mp := fun e => by
          obtain ⟨_, _, q1, _⟩ := S1.map_
          have := hw1 _ _ q1
          rw [← hvb] at e
          rw [← e] at this
          omega
        have x5 := b5.get _ _ hvm x4
        have r5 : MB.cell ((M2.put mp (.map es' (if frr = true then c + 1 else c))).get p) (po + (N - (n + 1)) * 2 + 0) = some (.int 3 K) := by
          have e : (M2.put mp (.map es' (if frr = true then c + 1 else c))).get p = M2.get p := by simp [Mem.put, hpm]
          rw [e]; exact a24
        simp only [go_sem, reduceCtorEq, Nat.reduceEqDiff, Nat.reduceAdd, Nat.reduceMul, Nat.reduceLeDiff, Nat.reduceSub, Nat.reduceLT, Nat.reduceBEq, Nat.reduceBNe, Int.reduceBEq, Int.reduceBNe, Int.reduceLT, Int.reduceLE, Int.reduceAdd, Int.reduceEq, Int.reduceNe, beq_self_eq_true, bne_self_eq_false, decide_true, decide_false, Bool.not_true, Bool.not_false, Bool.false_eq_true, false_and, and_false, not_true_eq_false, not_false_eq_true, f1, f4, f5, a1, hi, a24, a34, m1, d1, ok1, hpm]
        generalize hM5 : M2.put mp (.map es' (if frr = true then c + 1 else c)) = M5 at *
        refine (number_spec F.h42 K).use ?_
        rintro r M6 hw6 ⟨rfl, b6⟩
        have y6 := b6.get _ _ id y5
        have x6 := b6.get _ _ id x5
        have m6 := b6.get _ _ id hm5
        have b56 := b5.trans (b6.any _)
        simp only [go_sem, reduceCtorEq, Nat.reduceEqDiff, Nat.reduceAdd, Nat.reduceMul, Nat.reduceLeDiff, Nat.reduceSub, Nat.reduceLT, Nat.reduceBEq, Nat.reduceBNe, Int.reduceBEq, Int.reduceBNe, Int.reduceLT, Int.reduceLE, Int.reduceAdd, Int.reduceEq, Int.reduceNe, beq_self_eq_true, bne_self_eq_false, decide_true, decide_false, Bool.not_true, Bool.not_false, Bool.false_eq_true, false_and, and_false, not_true_eq_false, not_false_eq_true, VlA, f2, f3, y5, y6, x5, x6]
        refine (fns_put F (K := K) (v := ⟨3, V⟩) (.inl rfl) hw0 S4 (by omega) b56 hw6 m6 (d2.congr (want_put (T := T) (K := K) (v := ⟨3, V⟩) (put_law S4.num rfl (.inl rfl)).2))).use ?_
        rintro r M7 hw7 ⟨rfl, S7⟩
        have g9 : ((0 : Int) != 0) = false := rfl
        simp only [go_sem, reduceCtorEq, Nat.reduceEqDiff, Nat.reduceAdd, Nat.reduceMul, Nat.reduceLeDiff, Nat.reduceSub, Nat.reduceLT, Nat.reduceBEq, Nat.reduceBNe, Int.reduceBEq, Int.reduceBNe, Int.reduceLT, Int.reduceLE, Int.reduceAdd, Int.reduceEq, Int.reduceNe, beq_self_eq_true, bne_self_eq_false, decide_true, decide_false, Bool.not_true, Bool.not_false, Bool.false_eq_true, false_and, and_false, not_true_eq_false, not_false_eq_true, g9, f5, e9]
        have hput := putT_len T.arr T.prs ⟨3, K⟩ ⟨3, V⟩
        refine ⟨n, by omega, by omega, hw7, ⟨_, S7, ?_⟩, ?_, ?_, ?_, ?_, ?_⟩
        · show (putT T.arr T.prs ⟨3, K⟩ ⟨3, V⟩).1.length + 2 * (putT T.arr T.prs ⟨3, K⟩ ⟨3, V⟩).2.length ≤ _
          omega
        · simp [Tr.get_set, f1]
        · simp [Tr.get_set, f2]
        · simp [Tr.get_set, f3]
        · simp [Tr.get_set, f4]
        · simp [Tr.get_set]
end Go.Proofs.Ythpnhdopheofcaa

end
section
namespace Go.Proofs.Ythpnhdopheofcaa
open Go.Dx
variable {tbl : Nat → Option CFunc}

theorem fbody0 : cf6.body = .seq (seqHead cf6.body) (.seq (seqHead (seqTail 1 cf6.body)) (.seq (seqHead (seqTail 2 cf6.body)) (.seq (seqHead (seqTail 3 cf6.body)) (.seq (seqHead (seqTail 4 cf6.body)) (seqTail 5 cf6.body))))) := rfl

theorem tableFinds (F : FsT tbl) (h6 : tbl 6 = some cf6) (h39 : tbl 39 = some ⟨.skip, [], some (.bool true)⟩) {M : Mem} {sv : AV} {l : List (Int × Int)} (hs : SlIs M sv 2 (PairL l)) :
    CallW tbl 6 (.cons sv .nil) M fun r _ => r = .ret (.bool true) := by
  refine CallW.wf fun hw => ?_
  refine CallW.intro h6 rfl (fr := .nod (.val .leaf sv .leaf) .leaf) rfl ?_
  have tail := fun (hp tb mp : Pos) (T : Tb) (fr : Tr AV) (M2 : Mem) (h : M2.wf) (S : FnS M M2 hp tb mp T) (hT0 : T.arr = [] ∧ T.prs = []) (f1 : fr.get (.o .h) = some sv) (f2 : fr.get (.i (.o .h)) = some (.ptr hp 0)) (f3 : fr.get (.o (.i .h)) = some (.ptr tb 0)) (f4 : fr.get (.i (.i .h)) = some (.map mp)) => finds_b1 F hs hw h S hT0 f1 f2 f3 f4
  rw [fbody0]
  generalize seqTail 5 cf6.body = tl at *
  simp only [go_sem, reduceCtorEq, Nat.reduceEqDiff, Nat.reduceAdd, Nat.reduceMul, Nat.reduceLeDiff, Nat.reduceSub, Nat.reduceLT, Nat.reduceBEq, Nat.reduceBNe, Int.reduceBEq, Int.reduceBNe, Int.reduceLT, Int.reduceLE, Int.reduceAdd, Int.reduceEq, Int.reduceNe, beq_self_eq_true, bne_self_eq_false, decide_true, decide_false, Bool.not_true, Bool.not_false, Bool.false_eq_true, false_and, and_false, not_true_eq_false, not_false_eq_true, cf6, seqHead, seqTail]
  refine CallW.konst h39 rfl ?_
  simp only [go_sem, reduceCtorEq, Nat.reduceEqDiff, Nat.reduceAdd, Nat.reduceMul, Nat.reduceLeDiff, Nat.reduceSub, Nat.reduceLT, Nat.reduceBEq, Nat.reduceBNe, Int.reduceBEq, Int.reduceBNe, Int.reduceLT, Int.reduceLE, Int.reduceAdd, Int.reduceEq, Int.reduceNe, beq_self_eq_true, bne_self_eq_false, decide_true, decide_false, Bool.not_true, Bool.not_false, Bool.false_eq_true, false_and, and_false, not_true_eq_false, not_false_eq_true]
  refine (heapnew_spec F.h40 F.h84 (P := fun p => p.num < M.next.num) (fun _ h => h)).use ?_
  rintro r M1 hw1 ⟨hp, rfl, hH1, c1, hlt⟩
  simp only [go_sem, reduceCtorEq, Nat.reduceEqDiff, Nat.reduceAdd, Nat.reduceMul, Nat.reduceLeDiff, Nat.reduceSub, Nat.reduceLT, Nat.reduceBEq, Nat.reduceBNe, Int.reduceBEq, Int.reduceBNe, Int.reduceLT, Int.reduceLE, Int.reduceAdd, Int.reduceEq, Int.reduceNe, beq_self_eq_true, bne_self_eq_false, decide_true, decide_false, Bool.not_true, Bool.not_false, Bool.false_eq_true, false_and, and_false, not_true_eq_false, not_false_eq_true]
  refine (tnew_spec F.tb hH1 rfl (by decide)).use ?_
  rintro r M2 hw2 ⟨rfl, hH2, c2⟩
  have b3 := But.fill hw2 (.cells [.int 3 0, .int 3 0] false) (.cells [.int 3 6, .int 3 1] false)
  have w3 := hw2.fill (.cells [.int 3 0, .int 3 0] false) (.cells [.int 3 6, .int 3 1] false)
  have hH3 := hH2.wide b3 (q := M2.next) (Nat.le_refl _) (by show M2.next.num < M2.next.succ.num; rw [Pos.num_succ]; omega)
  have x3 : ((M2.new (.cells [.int 3 0, .int 3 0] false)).put M2.next (.cells [.int 3 6, .int 3 1] false)).get M2.next = some (.cells [.int 3 6, .int 3 1] false) := by simp [Mem.put]
  have n3 : ((M2.new (.cells [.int 3 0, .int 3 0] false)).put M2.next (.cells [.int 3 6, .int 3 1] false)).next = M2.next.succ := rfl
  have hg0 : G0.next = 1 := rfl
  simp only [go_sem, reduceCtorEq, Nat.reduceEqDiff, Nat.reduceAdd, Nat.reduceMul, Nat.reduceLeDiff, Nat.reduceSub, Nat.reduceLT, Nat.reduceBEq, Nat.reduceBNe, Int.reduceBEq, Int.reduceBNe, Int.reduceLT, Int.reduceLE, Int.reduceAdd, Int.reduceEq, Int.reduceNe, beq_self_eq_true, bne_self_eq_false, decide_true, decide_false, Bool.not_true, Bool.not_false, Bool.false_eq_true, false_and, and_false, not_true_eq_false, not_false_eq_true, VlA, hg0]
  have hM3n : M2.next.succ = ((M2.new (.cells [.int 3 0, .int 3 0] false)).put M2.next (.cells [.int 3 6, .int 3 1] false)).next := rfl
  rw [hM3n]
  have hnum : M2.next.succ.num = M2.next.num + 1 := Pos.num_succ _
  rw [hM3n] at hnum
  generalize hM3 : (M2.new (.cells [.int 3 0, .int 3 0] false)).put M2.next (.cells [.int 3 6, .int 3 1] false) = M3 at *
  have b4 := But.new (S := fun _ => False) w3 (.map .nil 0)
  have w4 := w3.new (.map .nil 0)
  have hH4 := hH3.more w3 (.map .nil 0)
  have x4 := b4.get _ _ id x3
  have y4 : (M3.new (.map .nil 0)).get M3.next = some (.map .nil 0) := by simp only [go_sem, reduceCtorEq, Nat.reduceEqDiff, Nat.reduceAdd, Nat.reduceMul, Nat.reduceLeDiff, Nat.reduceSub, Nat.reduceLT, Nat.reduceBEq, Nat.reduceBNe, Int.reduceBEq, Int.reduceBNe, Int.reduceLT, Int.reduceLE, Int.reduceAdd, Int.reduceEq, Int.reduceNe, beq_self_eq_true, bne_self_eq_false, decide_true, decide_false, Bool.not_true, Bool.not_false, Bool.false_eq_true, false_and, and_false, not_true_eq_false, not_false_eq_true]
  have hnone : ∀ K : Int, (⟨⟨1, 0⟩, [], []⟩ : Tb).get ⟨3, K⟩ = ⟨1, 0⟩ := fun K => by
    have hp : placedV ⟨3, K⟩ (([] : List Vl).length : Int) = false := by
      rw [placed_false]
      rintro ⟨_, g1, g2⟩
      simp at g1 g2
      omega
    simp only [Tb.get, hp, Bool.false_eq_true, if_false]
    rfl
  have hb : But (fun _ => False) M M2 := But.fresh hw ((c1.any _).trans (c2.mono fun p hp => .inr (by
    by_cases h : p.num < M.next.num
    · exact absurd h hp
    · omega)))
  have hbn := hb.next
  have hN : NumT (⟨⟨1, 0⟩, [], []⟩ : Tb) := ⟨⟨fun v hv => (by cases hv), fun x hx => (by cases hx), fun v hv => (by cases hv), List.nodup_nil, fun x hx => (by cases hx)⟩, rfl⟩
  have S : FnS M (M3.new (.map .nil 0)) hp M2.next M3.next ⟨⟨1, 0⟩, [], []⟩ := by
    refine ⟨(hb.trans b3).trans b4, ⟨_, hH4.less (fun p hp => ?_), ⟨by decide, ⟨_, rfl, rfl, rfl⟩, ?_⟩⟩, ?_, by simp, ⟨.nil, 0, y4, MapIs.nil.congr ?_⟩, x4, ?_, ?_, ?_⟩
    · rcases hp with h | h | h
      · exact .inl (.inl h)
      · exact .inl (.inr h)
      · exact .inr h
    · exact hN.ok (by decide)
    · exact hN
    · rintro a ⟨K, rfl⟩
      simp only [wantF, hnone]
      rfl
    · exact hbn
    · omega
    · exact fun e => by rw [e] at hnum; omega
  exact tail hp M2.next M3.next ⟨⟨1, 0⟩, [], []⟩ _ _ w4 S ⟨rfl, rfl⟩ rfl rfl rfl rfl

theorem pairs_of : ∀ {xs : List (List AV)}, (∀ x ∈ xs, okRow [.i .i64, .i .i64] x) → ∃ l : List (Int × Int), xs = PairL l
  | [], _ => ⟨[], rfl⟩
  | x :: r, h => by
    obtain ⟨l, rfl⟩ := pairs_of (xs := r) fun y hy => h y (List.mem_cons_of_mem _ hy)
    have hx := h x List.mem_cons_self
    rcases x with _ | ⟨a, _ | ⟨b, _ | ⟨c, t⟩⟩⟩
    · exact hx.elim
    · exact hx.2.elim
    · obtain ⟨⟨k, rfl, hk⟩, ⟨k2, rfl, hk2⟩, _⟩ := hx
      exact ⟨(k, k2) :: l, by simp [PairL, codeOf]⟩
    · exact hx.2.2.elim

theorem finds_arg (F : FsT tbl) (h6 : tbl 6 = some cf6) {cw : CFunc} (h39 : tbl 39 = some cw) (hcw : cw = ⟨.skip, [], some (.bool true)⟩) {W : World} {v : Value} {sv : AV} {len : Nat} {xs : List (List AV)}
    (h : ArgSl [.i .i64, .i .i64] W v sv len xs) :
    CallW tbl 6 (.cons sv .nil) (argM (argO sv xs)) fun r _ => r = .ret (.bool true) := by
  subst hcw
  obtain ⟨l, rfl⟩ := pairs_of h.okRows
  have hr := h.rows
  exact tableFinds (l := l.take len) F h6 h39 (by simpa [PairL, List.map_take] using hr)
end Go.Proofs.Ythpnhdopheofcaa

end
