import Derived.Test.YthpnhdopheofcaaSt
import Derived.Test.YthpnhdopheofcaaFns
import Derived.Test.YthpnhdopheofcaaDxLast
import Derived.Test.YthpnhdopheofcaaDxWk
set_option linter.unusedSimpArgs false
set_option linter.unusedVariables false
section
namespace Go.Proofs.Ythpnhdopheofcaa
open Go.Dx
variable {tbl : Nat → Option CFunc}
theorem But_reserve2 (M : Mem) (S : Pos → Prop) : But S M ⟨M.next.succ, M.get⟩ := ⟨by show M.next.num ≤ M.next.succ.num; rw [Pos.num_succ]; omega, fun _ _ _ h => h⟩
theorem slO_pushFrom2 {M : Mem} {own : Own} {t : Tag} {v : AV} {size : Nat} {L X : List (List AV)} {n c : Nat} {x : List AV} {q : Pos} (h : SlO M own t v size L) (hw : M.wf) (hi : own.in M) (hq : M.get q = some (.cells x false)) (hn : n = X.length) (hxx : x = X.flatten) (hx : ∀ x ∈ X, x.length = size ∧ x.all isCell = true) (hs0 : 0 < size) (hm : L.length + X.length ≤ most) :
  ∃ v' M' own', appO M size v (.slice q 0 n c) = some (v', M') ∧ SlO M' own' t v' size (L ++ X) ∧ OwnUp t M M' own own' ∧ But (fun p => own p = some t) M M' ∧ M'.wf := by
 subst hn hxx
 obtain ⟨v', M', own', h1, h2, h3, h4, h5⟩ := h.append_ hw hi hx hs0 hm
 refine ⟨v', M', own', ?_, h2, h3, h4, h5⟩
 have hsrc : srcM M size X.length (.slice q 0 X.length c) = some X.flatten :=
  (SlIs.made (X := X) (op := false) hq rfl (fun y hy => (hx y hy).1) rfl).src rfl (by simp)
 simp only [appO, lenOf_slice, Option.bind_some, hsrc]
 exact h1
structure HtT (tbl : Nat → Option CFunc) : Prop where
 h25 : tbl 25 = some cf25
 h75 : tbl 75 = some cf75
 h76 : tbl 76 = some cf76
 h77 : tbl 77 = some cf77
 h117 : tbl 117 = some cf117
 h143 : tbl 143 = some cf143
theorem maxKeys_spec : ∀ {es : ME} {lo n : Int}, (∀ a ∈ es.keys, intKey a) → (∀ m, AV.int 3 m ∈ es.keys → m ≤ n) → lo ≤ n → (lo = n ∨ AV.int 3 n ∈ es.keys) → maxKeys es lo = some n := by
 intro es
 induction es with
 | nil =>
  intro lo n _ _ _ h
  rcases h with rfl | h
  ·rfl
  ·simp [ME.keys] at h
 | cons k v b r ih =>
  intro lo n h1 h2 h3 h4
  obtain ⟨m, rfl⟩ := h1 k (by simp [ME.keys])
  have hm := h2 m (by simp [ME.keys])
  simp only [maxKeys, if_true]
  refine ih (fun a ha => h1 a (by simp [ME.keys, ha])) (fun x hx => h2 x (by simp [ME.keys, hx])) (by omega) ?_
  rcases h4 with rfl | h4
  ·exact .inl (by omega)
  ·simp only [ME.keys, List.mem_cons, AV.int.injEq, true_and] at h4
   rcases h4 with h4 | h4
   ·exact .inl (by omega)
   ·exact .inr h4
theorem last_spec {f : Nat} (h : tbl f = some ⟨.skip, [], some (.nat natLast)⟩) {M : Mem} {own : Own} {Y : Lay} {G : Hp} (hB : HeapB M own Y G) {n : Int} (h0 : 0 ≤ n) (h1 : ∀ m, G.taken m = true → m ≤ n) (h2 : n = 0 ∨ G.taken n = true) :
  CallW tbl f (.cons (.ptr Y.pp 0) .nil) M fun r M' => r = .ret (.int 3 n) ∧ M' = M := by
 intro H hs
 obtain ⟨es, c, k1, k2, k3⟩ := hB.tpc
 have e1 : H.cell Y.pp 0 = some (.map Y.tp) := hs.cell (by rw [Mem.cell_eq, hB.ppc]; rfl)
 obtain ⟨_, o, e2, e3⟩ := hs.at_ _ _ k1
 have e5 : H.get Y.tp = some (.map es c) := by
  cases o <;> simp_all [BRel]
 have e4 : maxKeys es 0 = some n := maxKeys_spec k2.good (fun m hm => h1 m (by
  have := (k2.mem _ ⟨m, rfl⟩).1 hm
  cases ht : G.taken m with
  | true => rfl
  | false => simp [takenF, ht] at this)) h0 (by
  rcases h2 with h2 | h2
  ·exact .inl h2.symm
  ·exact .inr ((k2.mem _ ⟨n, rfl⟩).2 (by simp [takenF, h2])))
 exact ⟨0, .ret (.int 3 n), H, M, by simp [callN, doCall, h, natLast, e1, e5, k3, e4], hs, rfl, rfl⟩
end Go.Proofs.Ythpnhdopheofcaa
end
section
namespace Go.Proofs.Ythpnhdopheofcaa
open Go.Dx
variable {tbl : Nat → Option CFunc}
def refsL (l : List Vl) : List Int := (l.filter refV).map (·.n)
theorem refsL_snoc (l : List Vl) (v : Vl) : refsL (l ++ [v]) = refsL l ++ (if refV v then [v.n] else []) := by
 unfold refsL
 rw [List.filter_append, List.map_append]
 cases h : refV v <;> simp [h]
theorem refsL_len (l : List Vl) : (refsL l).length ≤ l.length := by unfold refsL; rw [List.length_map]; exact List.length_filter_le _ _
set_option maxHeartbeats 1000000 in
theorem refs_x (T : HtT tbl) (h : tbl 30 = some cf30) {M : Mem} {sv : AV} {l : List Vl} (hs : SlIs M sv 2 (VlL l)) (hl : l.length ≤ 2 ^ 30) :
  CallW tbl 30 (.cons sv .nil) M fun r M' => (∃ v, r = .ret v ∧ SlIs M' v 1 (IntL (refsL l))) ∧ But (fun _ => False) M M' := by
 refine CallW.wf fun hw => ?_
 refine CallW.intro h rfl (fr := .nod (.val .leaf sv .leaf) .leaf) rfl ?_
 have hlen : slLen sv = some l.length := by rw [hs.len, vlL_len]
 simp only [go_sem, cf30, hlen]
 refine loop_wp (I := fun n fr M' => ∃ k own v, n + k = l.length ∧ M'.wf ∧ SlO M' own (90, 0) v 1 (IntL (refsL (l.take k))) ∧ own.in M' ∧ (∀ p, own p ≠ none → M.next.num ≤ p.num) ∧ But (fun p => False ∨ M.next.num ≤ p.num) M M' ∧
  fr.get (.o (.i (.o .h))) = some (.int 3 k) ∧ fr.get (.o (.o (.o .h))) = some sv ∧ fr.get (.i (.o (.o .h))) = some (.int 3 l.length) ∧ fr.get (.i (.o .h)) = some v) (n := l.length) ?_ ?_
 ·exact ⟨0, fun _ => none, .nilslice, rfl, hw, SlO.nil _ _ _ _, fun p hp => absurd rfl hp, fun p hp => absurd rfl hp, But.refl _ _, rfl, rfl, rfl, rfl⟩
 ·rintro n fr M' ⟨k, own, v, i0, i1, i2, i3, i4, i5, f1, f2, f3, f4⟩
  have b0 := But.fresh hw i5
  cases n with
  | zero =>
   have e : k = l.length := by omega
   subst e
   have g : decide (((l.length : Nat) : Int) < (l.length : Int)) = false := by simp only [decide_eq_false_iff_not]; omega
   simp only [go_sem, f1, f2, f3, f4, g]
   rw [List.take_length] at i2
   exact ⟨⟨_, rfl, i2.rows⟩, b0⟩
  | succ n =>
   have hk : k < l.length := by omega
   have g : decide (((k : Nat) : Int) < (l.length : Int)) = true := by simp only [decide_eq_true_eq]; omega
   have hs' : SlIs M' sv 2 (VlL l) := hs.old b0.old
   obtain ⟨p, po, a1, a2⟩ := hs'.at_ (i := k) (by rw [vlL_len]; exact hk)
   rw [vlL_len] at a1
   rw [show (VlL l)[k]? = some [.int 3 l[k].k, .int 3 l[k].n] by simp [VlL, VlR, hk]] at a2
   have et : l.take (k + 1) = l.take k ++ [l[k]] := List.take_succ_eq_append_getElem hk
   have es := refsL_snoc (l.take k) l[k]
   rw [← et] at es
   have hn := refsL_len (l.take k)
   rw [List.length_take] at hn
   generalize hv : l[k] = w at *
   obtain ⟨vk, vn⟩ := w
   have b1 := But.fill i1 (.cells [.int 3 0, .int 3 0] false) (.cells [.int 3 vk, .int 3 vn] false)
   have w1 := i1.fill (.cells [.int 3 0, .int 3 0] false) (.cells [.int 3 vk, .int 3 vn] false)
   have x1 : ((M'.new (.cells [.int 3 0, .int 3 0] false)).put M'.next (.cells [.int 3 vk, .int 3 vn] false)).get M'.next = some (.cells [.int 3 vk, .int 3 vn] false) := by simp [Mem.put]
   simp only [go_sem, f1, f2, f3, f4, g, hk, a1, a2]
   refine (ref_spec T.h77 T.h117 T.h143 (v := ⟨vk, vn⟩)).use ?_
   rintro r M2 hw2 ⟨rfl, b2⟩
   have x2 := b2.get _ _ id x1
   have bb := b1.trans b2
   have i2' := i2.keep (own' := own) (fun p b _ hp => bb.get _ _ id hp) fun _ h => h
   have i3' := Own.in.mono i3 bb.next
   have e1 : IntKind.i64.wrap ((k : Int) + 1) = ((k + 1 : Nat) : Int) := by rw [wrap64 (by omega) (by omega)]; omega
   have i5' : But (fun p => False ∨ M.next.num ≤ p.num) M M2 := i5.trans (bb.any _)
   cases hr : refV ⟨vk, vn⟩ with
   | false =>
    rw [hr] at es
    simp only [Bool.false_eq_true, if_false, List.append_nil] at es
    simp only [go_sem, f1, f2, f3, f4, e1]
    exact ⟨n, by omega, k + 1, own, v, by omega, hw2, by rw [es]; exact i2', i3', i4, i5', by simp [Tr.get_set], by simp [Tr.get_set, f2], by simp [Tr.get_set, f3], by simp [Tr.get_set, f4]⟩
   | true =>
    rw [hr] at es
    simp only [if_true] at es
    obtain ⟨v5, M5, own5, p5, s5, u5, b5, w5⟩ := i2'.push_ hw2 i3' (n := 1) (c := 1) (X := [[.int 3 vn]]) (x := [.int 3 vn]) rfl rfl (by simp [isCell]) (by omega) (by rw [intL_len]; simp only [most, List.length_cons, List.length_nil]; omega)
    simp only [go_sem, f1, f2, f3, f4, e1, x2, p5]
    refine ⟨n, by omega, k + 1, own5, v5, by omega, w5, by rw [es]; simpa [IntL] using s5, u5.in_ i3' b5.next, fun p hp => ?_, i5'.trans (b5.mono fun p hp => .inr (i4 p (by rw [hp]; simp))), by simp [Tr.get_set], by simp [Tr.get_set, f2], by simp [Tr.get_set, f3], by simp [Tr.get_set]⟩
    rcases u5 p with e | ⟨_, _, e, _⟩
    ·rw [e] at hp; exact i4 p hp
    ·have := i5'.next; omega
end Go.Proofs.Ythpnhdopheofcaa
end
section
namespace Go.Proofs.Ythpnhdopheofcaa
open Go.Dx
variable {tbl : Nat → Option CFunc}
def obZ : Ob := ⟨0, 0, [], 0, 0, 0⟩
def obAt (G : Hp) (i : Nat) : Ob := (G.objs ((i : Int) + 1)).getD obZ
def GrL (l : List Ob) (sv : Nat → AV) : List (List AV) := l.mapIdx fun i o => ObR o (sv i)
theorem grL_len (l : List Ob) (sv : Nat → AV) : (GrL l sv).length = l.length := by simp [GrL]
theorem grL_at (l : List Ob) (sv : Nat → AV) {i : Nat} (hi : i < l.length) : (GrL l sv)[i]? = some (ObR l[i] (sv i)) := by simp [GrL, hi]
theorem grL_snoc (l : List Ob) (o : Ob) (sv : Nat → AV) (v : AV) : GrL l sv ++ [ObR o v] = GrL (l ++ [o]) (fun i => if i = l.length then v else sv i) := by
 apply List.ext_getElem?
 intro i
 by_cases hi : i < l.length
 ·rw [List.getElem?_append_left (by rw [grL_len]; exact hi), grL_at _ _ hi, grL_at _ _ (by simp; omega)]
  rw [List.getElem_append_left hi, if_neg (by omega)]
 ·by_cases e : i = l.length
  ·subst e
   rw [List.getElem?_append_right (by rw [grL_len]; exact Nat.le_refl _), grL_at _ _ (by simp)]
   simp [grL_len]
  ·rw [List.getElem?_eq_none (by simp [grL_len]; omega), List.getElem?_eq_none (by simp [grL_len]; omega)]
def GrIs (M : Mem) (gv : AV) (l : List Ob) : Prop := ∃ sv : Nat → AV, SlIs M gv 5 (GrL l sv) ∧ ∀ i (hi : i < l.length), SlIs M (sv i) 2 (VlL l[i].slots)
theorem freshNil (M M' : Mem) (h : M.next.num ≤ M'.next.num) (size : Nat) : FreshSl M M' .nilslice size [] := fun own t hi => ⟨own, OwnUp.refl _ _ _ _, SlO.nil _ _ _ _⟩
theorem obj_any (T : HtT tbl) {M : Mem} {hp : Pos} {P : Pos → Prop} {G : Hp} {i : Nat} (hH : HeapIs M hp P G) (hl : ∀ n o, G.objs n = some o → o.slots.length ≤ most) :
  CallW tbl 25 (.cons (.ptr hp 0) (.cons (.int 3 ((i : Int) + 1)) .nil)) M fun r M' => ∃ sv, r = .ret (ObA (obAt G i) sv) ∧ FreshSl M M' sv 2 (VlL (obAt G i).slots) ∧ But (fun _ => False) M M' := by
 cases ho : G.objs ((i : Int) + 1) with
 | some o =>
  have e : obAt G i = o := by simp [obAt, ho]
  rw [e]
  exact obj_some T.h25 T.h75 T.h76 hH ho (hl _ _ ho)
 | none =>
  have e : obAt G i = obZ := by simp [obAt, ho]
  rw [e]
  refine (obj_none T.h25 T.h75 T.h76 hH ho).mono ?_
  rintro r M' ⟨rfl, b⟩
  exact ⟨_, rfl, freshNil _ _ b.next _, b⟩
end Go.Proofs.Ythpnhdopheofcaa
end
section
namespace Go.Proofs.Ythpnhdopheofcaa
open Go.Dx
variable {tbl : Nat → Option CFunc}
set_option maxHeartbeats 4000000 in
theorem graph_x (T : HtT tbl) (h53 : tbl 53 = some cf53) (h104 : tbl 104 = some ⟨.skip, [], some (.nat natLast)⟩) {M : Mem} {hp : Pos} {P : Pos → Prop} {G : Hp} {N : Nat} (hH : HeapIs M hp P G) (hN : N < 2 ^ 20) (h1 : ∀ m, G.taken m = true → m ≤ N) (h2 : (N : Int) = 0 ∨ G.taken N = true) (hl : ∀ n o, G.objs n = some o → o.slots.length ≤ most) :
  CallW tbl 53 (.cons (.ptr hp 0) .nil) M fun r M' => (∃ gv, r = .ret (.agg (.cons gv .nil)) ∧ GrIs M' gv ((List.range N).map (obAt G))) ∧ But (fun _ => False) M M' := by
 refine CallW.wf fun hw => ?_
 refine CallW.intro h53 rfl (fr := .nod (.val .leaf (.ptr hp 0) .leaf) .leaf) rfl ?_
 have b0 := But.new (S := fun _ => False) hw (.cells [.nilslice] false)
 have w0 := hw.new (.cells [.nilslice] false)
 have b1 := But.new (S := fun _ => False) w0 (.cells [.nilslice] false)
 have w1 := w0.new (.cells [.nilslice] false)
 have b01 := b0.trans b1
 have hH1 := hH.quiet b01
 have hH1' := (hH.quiet b0).more w0 (.cells [.nilslice] false)
 have hn0 : (M.new (.cells [.nilslice] false)).next = M.next.succ := rfl
 rw [hn0] at hH1'
 have x0 : ((M.new (.cells [.nilslice] false)).new (.cells [.nilslice] false)).get M.next = some (.cells [.nilslice] false) := by simp only [go_sem]
 have x1 : ((M.new (.cells [.nilslice] false)).new (.cells [.nilslice] false)).get M.next.succ = some (.cells [.nilslice] false) := by simp only [go_sem]
 have hn1 : ((M.new (.cells [.nilslice] false)).new (.cells [.nilslice] false)).next = M.next.succ.succ := rfl
 obtain ⟨own0, Y, rfl, hP, hB⟩ := hH1
 have hcc := hB.hpc
 simp only [hpC] at hcc
 simp only [go_sem, cf53]
 have hcc' := hcc
 simp only [go_sem] at hcc'
 simp only [go_sem, hcc']
 generalize hM1 : (M.new (.cells [.nilslice] false)).new (.cells [.nilslice] false) = M1 at *
 refine (last_spec h104 hB (n := (N : Int)) (by omega) h1 h2).use ?_
 rintro r M2 hw2 ⟨rfl, rfl⟩
 have hq01 : M.next.succ.num = M.next.num + 1 := Pos.num_succ _
 have hn2 : M2.next.num = M.next.num + 2 := by rw [hn1, Pos.num_succ, hq01]
 generalize hq0 : M.next = q0 at *
 generalize hq1 : q0.succ = q1 at *
 have hH2 : HeapIs M2 Y.hp P G := ⟨own0, Y, rfl, hP, hB⟩
 simp only [go_sem]
 refine loop_wp (I := fun n fr M' => ∃ (k : Nat) (own : Own) (v : AV) (sv : Nat → AV), n + k = N ∧ M'.wf ∧ SlO M' own (91, 0) v 5 (GrL ((List.range k).map (obAt G)) sv) ∧ (∀ i, i < k → SlO M' own (92, (i : Int)) (sv i) 2 (VlL (obAt G i).slots)) ∧ own.in M' ∧ (∀ p, own p ≠ none → M2.next.num ≤ p.num) ∧
  But (fun p => p = q1 ∨ M2.next.num ≤ p.num) M2 M' ∧ M'.get q1 = some (.cells [v] false) ∧ fr.get (.i (.i (.i .h))) = some (.int 3 k) ∧ fr.get (.o (.i (.i .h))) = some (.int 3 N) ∧ fr.get (.o .h) = some (.ptr Y.hp 0) ∧ fr.get (.i (.o .h)) = some (.ptr q1 0) ∧ fr.get (.o (.o .h)) = some (.ptr q0 0)) (n := N) ?_ ?_
 ·exact ⟨0, fun _ => none, .nilslice, fun _ => .nilslice, rfl, hw2, SlO.nil _ _ _ _, fun i hi => absurd hi (Nat.not_lt_zero _), fun p hp => absurd rfl hp, fun p hp => absurd rfl hp, But.refl _ _, x1, rfl, rfl, rfl, rfl, rfl⟩
 ·rintro n fr M' ⟨k, own, v, sv, i0, i1, i2, i3, i4, i5, i6, i7, f1, f2, f3, f4, f5⟩
  cases n with
  | zero =>
   have e : k = N := by omega
   subst e
   have g : decide ((k : Int) < (k : Int)) = false := by simp
   have x0' : M'.get q0 = some (.cells [.nilslice] false) := i6.get _ _ (fun e => by
    rcases e with e | e
    ·rw [← e] at hq01; omega
    ·omega) x0
   have hc := i2.cell
   simp only [go_sem, f1, f2, f3, f4, f5, g, i7, x0', hc]
   have kp : ∀ p b s, own p = some s → M'.get p = some b → (M'.put q0 (.cells [v] false)).get p = some b := fun p b s ho hp => by
    have := i5 p (by rw [ho]; simp)
    show (if p = q0 then _ else M'.get p) = _
    rw [if_neg (fun e => by rw [e] at this; omega)]; exact hp
   refine ⟨⟨v, rfl, sv, (i2.keep (own' := own) (fun p b ho hp => kp p b _ ho hp) fun _ h => h).rows, fun i hi => ?_⟩, ?_⟩
   ·have hi' : i < k := by simpa using hi
    have := ((i3 i hi').keep (own' := own) (fun p b ho hp => kp p b _ ho hp) fun _ h => h).rows
    simpa using this
   ·have hq0' : ∀ p : Pos, (p = q1 ∨ M2.next.num ≤ p.num) → M.next.num ≤ p.num := fun p h => by
     rw [hq0]
     rcases h with rfl | h <;> omega
    exact But.fresh hw (((b01.any _).trans (i6.mono fun p h => .inr (hq0' p h))).trans (But.put (p := q0) _ (.inr (by rw [hq0]; exact Nat.le_refl _)) _))
  | succ n =>
   have g : decide ((k : Int) < (N : Int)) = true := by simp only [decide_eq_true_eq]; omega
   have e1 : IntKind.i64.wrap ((k : Int) + 1) = (k : Int) + 1 := wrap64 (by omega) (by omega)
   have e2 : ((k : Int) + 1) = ((k + 1 : Nat) : Int) := by omega
   have e3 : IntKind.i64.wrap ((k + 1 : Nat) : Int) = ((k + 1 : Nat) : Int) := wrap64 (by omega) (by omega)
   have hH' : HeapIs M' Y.hp P G := (hH1'.frame ((But.fresh hw2 i6).mono fun p h => .inr h)).less fun p h => .inl h
   have hHr : HeapIs ⟨M'.next.succ, M'.get⟩ Y.hp P G := hH'.quiet (But_reserve2 M' _)
   simp only [go_sem, f1, f2, f3, f4, f5, g, e1]
   refine (obj_any T (i := k) hHr hl).use ?_
   rintro r M4 hw4 ⟨s4, rfl, hf4, b4⟩
   obtain ⟨own4, u4, so4⟩ := hf4 own (92, (k : Int)) (Own.in.mono i4 (by show M'.next.num ≤ M'.next.succ.num; rw [Pos.num_succ]; omega))
   have i7' : M4.get q1 = some (.cells [v] false) := b4.get _ _ id i7
   have hq : (M'.next.num < M4.next.num) = True := eq_true (by have := b4.next; have e : M'.next.succ.num ≤ M4.next.num := this; rw [Pos.num_succ] at e; omega)
   have hc4 := so4.cell
   have ownq : own4 M'.next = none := by
    rcases u4 M'.next with e | ⟨_, _, e, _⟩
    ·rw [e]
     cases ho : own M'.next with
     | none => rfl
     | some t => have := i4 M'.next (by rw [ho]; simp); omega
    ·have e' : M'.next.succ.num ≤ M'.next.num := e
     rw [Pos.num_succ] at e'; omega
   have i2' : SlO M4 own4 (91, 0) v 5 (GrL ((List.range k).map (obAt G)) sv) := i2.keep (fun p b _ hp => b4.get _ _ id hp) fun _ h => u4.old h
   have i3' : ∀ i, i < k → SlO M4 own4 (92, (i : Int)) (sv i) 2 (VlL (obAt G i).slots) := fun i hi => (i3 i hi).keep (fun p b _ hp => b4.get _ _ id hp) fun _ h => u4.old h
   have i4' : own4.in M4 := u4.in_ (Own.in.mono i4 (by show M'.next.num ≤ M'.next.succ.num; rw [Pos.num_succ]; omega)) b4.next
   generalize hob : obAt G k = ob at *
   generalize hqq : M'.next = q at *
   have ne1 : (q1 = q) = False := eq_false fun e => by have := i1 q1 _ i7; rw [e, hqq] at this; omega
   simp only [go_sem, ObA, hq, f4, i7', ne1, hc4]
   have bR : But (fun _ => False) M' ⟨q.succ, M'.get⟩ := by rw [← hqq]; exact But_reserve2 M' _
   have hq2 : M2.next.num ≤ q.num := by rw [← hqq]; exact i6.next
   have own4_ge : ∀ p, own4 p ≠ none → M2.next.num ≤ p.num := fun p hp => by
    rcases u4 p with e | ⟨_, _, e, _⟩
    ·rw [e] at hp; exact i5 p hp
    ·have e' : q.succ.num ≤ p.num := e
     rw [Pos.num_succ] at e'; omega
   have o1 : own4 q1 = none := by
    cases ho : own4 q1 with
    | none => rfl
    | some t => have := own4_ge q1 (by rw [ho]; simp); omega
   have w5 : (M4.put q (.cells (ObR ob s4) false)).wf := fun p c hp => by
    by_cases e : p = q
    ·subst e; exact of_eq_true hq
    ·have hp' : (if p = q then some (MB.cells (ObR ob s4) false) else M4.get p) = some c := hp
     rw [if_neg e] at hp'; exact hw4 p c hp'
   have x5 : (M4.put q (.cells (ObR ob s4) false)).get q = some (.cells (ObR ob s4) false) := by simp [Mem.put]
   have kq : ∀ p b s, own4 p = some s → M4.get p = some b → (M4.put q (.cells (ObR ob s4) false)).get p = some b := fun p b s ho hp => by
    show (if p = q then _ else M4.get p) = _
    rw [if_neg (fun e => by rw [e, ownq] at ho; cases ho)]; exact hp
   obtain ⟨v6, M6, own6, p6, s6, u6, b6, w6⟩ := slO_pushFrom2 (i2'.keep (own' := own4) (fun p b ho hp => kq p b _ ho hp) fun _ h => h) w5 i4' x5 (n := 1) (c := 1) (X := [ObR ob s4]) rfl (by simp) (fun x hx => by rw [List.mem_singleton.1 hx]; exact ⟨rfl, by simp [ObR, hc4, show ∀ n, isCell (.int 3 n) = true from fun _ => rfl, show ∀ a b, isCell (.str a b) = true from fun _ _ => rfl]⟩) (by omega) (by rw [grL_len]; simp [most]; omega)
   have hc6 := s6.cell
   have x5q1 : (M4.put q (.cells (ObR ob s4) false)).get q1 = some (.cells [v] false) := by
    show (if q1 = q then _ else M4.get q1) = _
    rw [if_neg (of_eq_false ne1)]; exact i7'
   have x6 : M6.get q1 = some (.cells [v] false) := b6.get _ _ (fun e => by rw [o1] at e; cases e) x5q1
   have o6 : own6 q1 = none := by
    rcases u6 q1 with e | ⟨_, _, e, _⟩
    ·rw [e]; exact o1
    ·have e' : M4.next.num ≤ q1.num := e
     have := of_eq_true hq
     omega
   have el : ((List.range k).map (obAt G)).length = k := by simp
   rw [grL_snoc, el] at s6
   have er : (List.range (k + 1)).map (obAt G) = (List.range k).map (obAt G) ++ [ob] := by rw [List.range_succ, List.map_append, ← hob]; rfl
   have kk : ∀ p b s, own4 p = some s → s ≠ (91, 0) → M4.get p = some b → (M6.put q1 (.cells [v6] false)).get p = some b := fun p b s ho hs hp => by
    show (if p = q1 then _ else M6.get p) = _
    rw [if_neg (fun e => by rw [e, o1] at ho; cases ho)]
    exact b6.get p b (fun e => by rw [ho] at e; exact hs (Option.some.inj e)) (kq p b s ho hp)
   simp only [ObR] at p6
   simp only [go_sem, i7, p6, f1, f2, f3, f4, f5, x6, hc6, e1, e2, e3]
   refine ⟨n, by omega, k + 1, own6, v6, fun i => if i = k then s4 else sv i, by omega, w6.put x6 _, ?_, ?_, ?_, ?_, ?_, ?_, ?_, ?_, ?_, ?_, ?_⟩
   ·rw [er]
    exact s6.keep (own' := own6) (fun p b ho hp => by
     show (if p = q1 then _ else M6.get p) = _
     rw [if_neg (fun e => by rw [e, o6] at ho; cases ho)]; exact hp) fun _ h => h
   ·intro i hi
    by_cases e : i = k
    ·subst e
     show SlO _ _ _ (if i = i then s4 else sv i) 2 _
     rw [if_pos rfl, hob]
     exact so4.keep (own' := own6) (fun p b ho hp => kk p b _ ho (by simp) hp) fun _ h => u6.old h
    ·show SlO _ _ _ (if i = k then s4 else sv i) 2 _
     rw [if_neg e]
     exact (i3' i (by omega)).keep (own' := own6) (fun p b ho hp => kk p b _ ho (by simp) hp) fun _ h => u6.old h
   ·exact u6.in_ i4' b6.next
   ·intro p hp
    rcases u6 p with e | ⟨_, _, e, _⟩
    ·rw [e] at hp; exact own4_ge p hp
    ·have e' : M4.next.num ≤ p.num := e
     have := of_eq_true hq
     omega
   ·exact ((((i6.trans (bR.any _)).trans (b4.any _)).trans (But.put (p := q) _ (.inr hq2) _)).trans (b6.mono fun p hp => .inr (own4_ge p (by rw [hp]; simp)))).trans (But.put (p := q1) _ (.inl rfl) _)
   ·simp [Mem.put]
   ·simp [Tr.get_set]
   ·simp [Tr.get_set, f2]
   ·simp [Tr.get_set, f3]
   ·simp [Tr.get_set, f4]
   ·simp [Tr.get_set, f5]
end Go.Proofs.Ythpnhdopheofcaa
end
section
namespace Go.Proofs.Ythpnhdopheofcaa
open Go.Dx
variable {tbl : Nat → Option CFunc}
theorem slIs_cell {M : Mem} {v : AV} {size : Nat} {L : List (List AV)} (h : SlIs M v size L) : isCell v = true := by
 rcases slLen_shape h.len with rfl | ⟨p, o, c, rfl⟩ | ⟨p, o, s, rfl⟩ <;> rfl
theorem GrIs.old {M M' : Mem} {gv : AV} {os : List Ob} (h : GrIs M gv os) (b : But (fun _ => False) M M') : GrIs M' gv os := by
 obtain ⟨sv, h1, h2⟩ := h
 exact ⟨sv, h1.old b.old, fun i hi => (h2 i hi).old b.old⟩
def slotOk (os : List Ob) (v : Vl) : Prop := mayV v = true ∧ v.k ≠ 0 ∧ (refV v = true → ∃ (i : Nat) (hi : i < os.length), v.n = (i : Int) + 1 ∧ os[i].kind = v.k)
set_option maxHeartbeats 1000000 in
theorem slot_x (T : HtT tbl) (h138 : tbl 138 = some cf138) {M : Mem} {gv : AV} {os : List Ob} {v : Vl} (hg : GrIs M gv os) (hl : os.length < 2 ^ 20) (hv : slotOk os v) :
  CallW tbl 138 (.cons (.agg (.cons gv .nil)) (.cons (VlA v) .nil)) M fun r M' => r = .ret (.bool true) ∧ But (fun _ => False) M M' := by
 refine CallW.wf fun hw => ?_
 obtain ⟨hm, hk, hr⟩ := hv
 obtain ⟨sv, hs, hss⟩ := hg
 have hgc := slIs_cell hs
 have hlen := hs.len
 rw [grL_len] at hlen
 obtain ⟨vk, vn⟩ := v
 refine CallW.intro h138 rfl (fr := .nod (.val .leaf (.agg (.cons gv .nil)) .leaf) (.val .leaf (VlA ⟨vk, vn⟩) .leaf)) rfl ?_
 have b0 := But.new (S := fun _ => False) hw (.cells [gv] false)
 have w0 := hw.new (.cells [gv] false)
 have b1 := But.new (S := fun _ => False) w0 (.cells [.int 3 vk, .int 3 vn] false)
 have w1 := w0.new (.cells [.int 3 vk, .int 3 vn] false)
 have b01 := b0.trans b1
 have x0 : ((M.new (.cells [gv] false)).new (.cells [.int 3 vk, .int 3 vn] false)).get M.next = some (.cells [gv] false) := by simp only [go_sem]
 have x1 : ((M.new (.cells [gv] false)).new (.cells [.int 3 vk, .int 3 vn] false)).get M.next.succ = some (.cells [.int 3 vk, .int 3 vn] false) := by simp only [go_sem]
 have hs1 := hs.old b01.old
 simp only [go_sem, cf138, VlA, hgc]
 generalize hM1 : (M.new (.cells [gv] false)).new (.cells [.int 3 vk, .int 3 vn] false) = M1 at *
 refine (may_spec T.h117 T.h143 (v := ⟨vk, vn⟩)).use ?_
 rintro r M2 hw2 ⟨rfl, b2⟩
 have y1 := b2.get _ _ id x1
 have g0 : (vk == 0) = false := by rw [beq_eq_false_iff_ne]; exact hk
 have hs2 := hs1.old b2.old
 have y0 := b2.get _ _ id x0
 simp only [go_sem, hm, y1, g0]
 refine (ref_spec T.h77 T.h117 T.h143 (v := ⟨vk, vn⟩)).use ?_
 rintro r M3 hw3 ⟨rfl, b3⟩
 have z1 := b3.get _ _ id y1
 have z0 := b3.get _ _ id y0
 have hs3 := hs2.old b3.old
 have bb : But (fun _ => False) M M3 := (b01.trans b2).trans b3
 cases hrv : refV ⟨vk, vn⟩ with
 | false =>
  simp only [go_sem]
  first | exact bb | exact ⟨rfl, bb⟩
 | true =>
  obtain ⟨i, hi, e1, e2⟩ := hr hrv
  have e1' : vn = (i : Int) + 1 := e1
  subst e1'
  have g1 : decide ((i : Int) + 1 ≤ (os.length : Int)) = true := by simp only [decide_eq_true_eq]; omega
  have e3 : IntKind.i64.wrap ((i : Int) + 1 - 1) = (i : Int) := by rw [wrap64 (by omega) (by omega)]; omega
  obtain ⟨p, po, a1, a2⟩ := hs3.at_ (i := i) (by rw [grL_len]; exact hi)
  rw [grL_len] at a1
  rw [grL_at _ _ hi] at a2
  have a3 := MB.cell_row a2 (j := 0) (by simp [ObR])
  have e2' : os[i].kind = vk := e2
  have a3' : MB.cell (M3.get p) (po + i * 5) = some (.int 3 vk) := by simpa [ObR, e2'] using a3
  simp only [go_sem, z1, z0, hlen, g1, e3, a1, hi, a3', Nat.add_zero]
  first | exact bb | exact ⟨rfl, bb⟩
end Go.Proofs.Ythpnhdopheofcaa
end
section
namespace Go.Proofs.Ythpnhdopheofcaa
open Go.Dx
variable {tbl : Nat → Option CFunc}
theorem index_none1 (h : tbl 145 = some cf145) {g : Nat} {cap : AV} {M : Mem} {sv : AV} {l : List Vl} (hs : SlIs M sv 2 (VlL l)) (hl : l.length < 2 ^ 62) (hcall : ∀ v ∈ l, ∀ M', M'.wf → But (fun _ => False) M M' → CallW tbl g (.cons (VlA v) (.cons cap .nil)) M' fun r M'' => r = .ret (.bool false) ∧ But (fun _ => False) M' M'') :
  CallW tbl 145 (.cons sv (.cons (.func (.func g) .nil (.cons cap .nil)) .nil)) M fun r M' => r = .ret (.int 3 (-1)) ∧ But (fun _ => False) M M' := by
 refine CallW.wf fun hw => ?_
 refine CallW.intro h rfl (fr := .nod (.val .leaf sv .leaf) (.val .leaf (.func (.func g) .nil (.cons cap .nil)) .leaf)) rfl ?_
 have hlen := hs.len
 rw [vlL_len] at hlen
 simp only [go_sem, cf145, hlen]
 refine loop_wp (I := fun n fr M' => n ≤ l.length ∧ M'.wf ∧ But (fun _ => False) M M' ∧ fr.get (.o .h) = some sv ∧ fr.get (.i .h) = some (.func (.func g) .nil (.cons cap .nil)) ∧ fr.get (.i (.o (.o .h))) = some (.int 3 l.length) ∧ fr.get (.o (.i (.o .h))) = some (.int 3 ((l.length - n : Nat) : Int))) (n := l.length) ?_ ?_
 ·exact ⟨Nat.le_refl _, hw, But.refl _ _, rfl, rfl, rfl, by rw [Nat.sub_self]; rfl⟩
 ·rintro n fr M' ⟨i1, i2, i3, f1, f2, f3, f4⟩
  cases n with
  | zero =>
   have g1 : decide (((l.length - 0 : Nat) : Int) < (l.length : Int)) = false := by simp only [decide_eq_false_iff_not]; omega
   simp only [go_sem, f1, f2, f3, f4, g1]
   exact i3
  | succ n =>
   have g1 : decide (((l.length - (n + 1) : Nat) : Int) < (l.length : Int)) = true := by simp only [decide_eq_true_eq]; omega
   have hi : l.length - (n + 1) < l.length := by omega
   obtain ⟨p, po, a1, a2⟩ := (hs.old i3.old).at_ (i := l.length - (n + 1)) (by rw [vlL_len]; exact hi)
   rw [vlL_len] at a1
   have a3 : (VlL l)[l.length - (n + 1)]? = some (VlR l[l.length - (n + 1)]) := by simp [VlL, hi]
   rw [a3] at a2
   simp only [VlR] at a2
   simp only [go_sem, f1, f2, f3, f4, g1, a1, a2, hi]
   refine (hcall l[l.length - (n + 1)] (List.getElem_mem hi) M' i2 i3).use ?_
   rintro r M2 hw2 ⟨rfl, b2⟩
   have e1 : IntKind.i64.wrap (((l.length - (n + 1) : Nat) : Int) + 1) = ((l.length - n : Nat) : Int) := by rw [wrap64 (by omega) (by omega)]; omega
   simp only [go_sem, f1, f2, f3, f4, e1]
   exact ⟨n, by omega, by omega, hw2, i3.trans b2, by simp [Tr.get_set, f1], by simp [Tr.get_set, f2], by simp [Tr.get_set, f3], by rw [Tr.get_set]; rfl⟩
theorem contains_none1 (h : tbl 121 = some cf121) (h1 : tbl 145 = some cf145) {g : Nat} {cap : AV} {M : Mem} {sv : AV} {l : List Vl} (hs : SlIs M sv 2 (VlL l)) (hl : l.length < 2 ^ 62) (hcall : ∀ v ∈ l, ∀ M', M'.wf → But (fun _ => False) M M' → CallW tbl g (.cons (VlA v) (.cons cap .nil)) M' fun r M'' => r = .ret (.bool false) ∧ But (fun _ => False) M' M'') :
  CallW tbl 121 (.cons sv (.cons (.func (.func g) .nil (.cons cap .nil)) .nil)) M fun r M' => r = .ret (.bool false) ∧ But (fun _ => False) M M' := by
 refine CallW.intro h rfl (fr := .nod (.val .leaf sv .leaf) (.val .leaf (.func (.func g) .nil (.cons cap .nil)) .leaf)) rfl ?_
 simp only [go_sem, cf121]
 refine (index_none1 h1 hs hl hcall).use ?_
 rintro r M1 hw1 ⟨rfl, b1⟩
 have g1 : decide ((0 : Int) ≤ -1) = false := rfl
 simp only [go_sem, g1]
 first | exact b1 | exact ⟨rfl, b1⟩
theorem index_noneO (h : tbl 132 = some cf132) {g : Nat} {cap : AV} {M : Mem} {sv : AV} {l : List Ob} {tv : Nat → AV} (hs : SlIs M sv 5 (GrL l tv)) (hl : l.length < 2 ^ 62) (hcall : ∀ i (hi : i < l.length), ∀ M', M'.wf → But (fun _ => False) M M' → CallW tbl g (.cons (ObA l[i] (tv i)) (.cons cap .nil)) M' fun r M'' => r = .ret (.bool false) ∧ But (fun _ => False) M' M'') :
  CallW tbl 132 (.cons sv (.cons (.func (.func g) .nil (.cons cap .nil)) .nil)) M fun r M' => r = .ret (.int 3 (-1)) ∧ But (fun _ => False) M M' := by
 refine CallW.wf fun hw => ?_
 refine CallW.intro h rfl (fr := .nod (.val .leaf sv .leaf) (.val .leaf (.func (.func g) .nil (.cons cap .nil)) .leaf)) rfl ?_
 have hlen := hs.len
 rw [grL_len] at hlen
 simp only [go_sem, cf132, hlen]
 refine loop_wp (I := fun n fr M' => n ≤ l.length ∧ M'.wf ∧ But (fun _ => False) M M' ∧ fr.get (.o .h) = some sv ∧ fr.get (.i .h) = some (.func (.func g) .nil (.cons cap .nil)) ∧ fr.get (.i (.o (.o .h))) = some (.int 3 l.length) ∧ fr.get (.o (.i (.o .h))) = some (.int 3 ((l.length - n : Nat) : Int))) (n := l.length) ?_ ?_
 ·exact ⟨Nat.le_refl _, hw, But.refl _ _, rfl, rfl, rfl, by rw [Nat.sub_self]; rfl⟩
 ·rintro n fr M' ⟨i1, i2, i3, f1, f2, f3, f4⟩
  cases n with
  | zero =>
   have g1 : decide (((l.length - 0 : Nat) : Int) < (l.length : Int)) = false := by simp only [decide_eq_false_iff_not]; omega
   simp only [go_sem, f1, f2, f3, f4, g1]
   exact i3
  | succ n =>
   have g1 : decide (((l.length - (n + 1) : Nat) : Int) < (l.length : Int)) = true := by simp only [decide_eq_true_eq]; omega
   have hi : l.length - (n + 1) < l.length := by omega
   obtain ⟨p, po, a1, a2⟩ := (hs.old i3.old).at_ (i := l.length - (n + 1)) (by rw [grL_len]; exact hi)
   rw [grL_len] at a1
   rw [grL_at _ _ hi] at a2
   simp only [ObR] at a2
   simp only [go_sem, f1, f2, f3, f4, g1, a1, a2, hi]
   refine (hcall (l.length - (n + 1)) hi M' i2 i3).use ?_
   rintro r M2 hw2 ⟨rfl, b2⟩
   have e1 : IntKind.i64.wrap (((l.length - (n + 1) : Nat) : Int) + 1) = ((l.length - n : Nat) : Int) := by rw [wrap64 (by omega) (by omega)]; omega
   simp only [go_sem, f1, f2, f3, f4, e1]
   exact ⟨n, by omega, by omega, hw2, i3.trans b2, by simp [Tr.get_set, f1], by simp [Tr.get_set, f2], by simp [Tr.get_set, f3], by rw [Tr.get_set]; rfl⟩
theorem contains_noneO (h : tbl 105 = some cf105) (h1 : tbl 132 = some cf132) {g : Nat} {cap : AV} {M : Mem} {sv : AV} {l : List Ob} {tv : Nat → AV} (hs : SlIs M sv 5 (GrL l tv)) (hl : l.length < 2 ^ 62) (hcall : ∀ i (hi : i < l.length), ∀ M', M'.wf → But (fun _ => False) M M' → CallW tbl g (.cons (ObA l[i] (tv i)) (.cons cap .nil)) M' fun r M'' => r = .ret (.bool false) ∧ But (fun _ => False) M' M'') :
  CallW tbl 105 (.cons sv (.cons (.func (.func g) .nil (.cons cap .nil)) .nil)) M fun r M' => r = .ret (.bool false) ∧ But (fun _ => False) M M' := by
 refine CallW.intro h rfl (fr := .nod (.val .leaf sv .leaf) (.val .leaf (.func (.func g) .nil (.cons cap .nil)) .leaf)) rfl ?_
 simp only [go_sem, cf105]
 refine (index_noneO h1 hs hl hcall).use ?_
 rintro r M1 hw1 ⟨rfl, b1⟩
 have g1 : decide ((0 : Int) ≤ -1) = false := rfl
 simp only [go_sem, g1]
 first | exact b1 | exact ⟨rfl, b1⟩
theorem slotcl_x (T : HtT tbl) (h137 : tbl 137 = some cf137) (h138 : tbl 138 = some cf138) {M : Mem} {gv : AV} {os : List Ob} {v : Vl} {gb : Pos} {fl : Bool} (hg : GrIs M gv os) (hgb : M.get gb = some (.cells [gv] fl)) (hl : os.length < 2 ^ 20) (hv : slotOk os v) :
  CallW tbl 137 (.cons (VlA v) (.cons (.ptr gb 0) .nil)) M fun r M' => r = .ret (.bool false) ∧ But (fun _ => False) M M' := by
 refine CallW.wf fun hw => ?_
 obtain ⟨vk, vn⟩ := v
 refine CallW.intro h137 rfl (fr := .nod (.val .leaf (VlA ⟨vk, vn⟩) .leaf) (.val .leaf (.ptr gb 0) .leaf)) rfl ?_
 have b1 := But.new (S := fun _ => False) hw (.cells [.int 3 vk, .int 3 vn] false)
 have ne := hw.ne hgb
 have hgc := slIs_cell hg.choose_spec.1
 simp only [go_sem, cf137, VlA, hgb, ne]
 refine (slot_x T h138 (v := ⟨vk, vn⟩) (hg.old b1) hl hv).use ?_
 rintro r M2 hw2 ⟨rfl, b2⟩
 simp only [go_sem]
 first | exact b1.trans b2 | exact ⟨rfl, b1.trans b2⟩
structure ObFine (os : List Ob) (o : Ob) : Prop where
 kind : 5 ≤ o.kind ∧ o.kind ≤ 9
 count : 0 ≤ o.count
 mark : -1 ≤ o.mark
 text : if o.kind = 5 then o.slots = [] else (o.tl = 0 ∧ o.tn = 0)
 slots : ∀ v ∈ o.slots, slotOk os v
 len : o.slots.length < 2 ^ 62
theorem obj1_x (h134 : tbl 134 = some cf134) {M : Mem} {ob : Pos} {o : Ob} {sv : AV} {fl : Bool} {os : List Ob} (ho : M.get ob = some (.cells (ObR o sv) fl)) (hf : ObFine os o) :
  CallW tbl 134 (.cons (.ptr ob 0) .nil) M fun r M' => r = .ret (.bool true) ∧ M' = M := by
 refine CallW.intro h134 rfl (fr := .nod (.val .leaf (.ptr ob 0) .leaf) .leaf) rfl ?_
 obtain ⟨k1, k2⟩ := hf.kind
 have k3 := hf.count
 have k4 := hf.mark
 have g1 : decide ((5 : Int) ≤ o.kind) = true := by simp only [decide_eq_true_eq]; exact k1
 have g2 : decide (o.kind ≤ (9 : Int)) = true := by simp only [decide_eq_true_eq]; exact k2
 have g3 : decide ((0 : Int) ≤ o.count) = true := by simp only [decide_eq_true_eq]; exact k3
 have g4 : decide ((-1 : Int) ≤ o.mark) = true := by simp only [decide_eq_true_eq]; exact k4
 simp only [ObR] at ho
 simp only [go_sem, cf134, ho, g1, g2, g3, g4]
theorem obj2_x (h135 : tbl 135 = some cf135) {M : Mem} {ob ib : Pos} {o : Ob} {sv : AV} {fl fl' : Bool} {os : List Ob} (ho : M.get ob = some (.cells (ObR o sv) fl)) (hi : M.get ib = some (.cells [.bool (o.kind == 5)] fl')) (hs : SlIs M sv 2 (VlL o.slots)) (hf : ObFine os o) :
  CallW tbl 135 (.cons (.ptr ib 0) (.cons (.ptr ob 0) .nil)) M fun r M' => r = .ret (.bool true) ∧ M' = M := by
 refine CallW.intro h135 rfl (fr := .nod (.val .leaf (.ptr ib 0) .leaf) (.val .leaf (.ptr ob 0) .leaf)) rfl ?_
 have hlen := hs.len
 rw [vlL_len] at hlen
 have ht := hf.text
 simp only [ObR] at ho
 by_cases h5 : o.kind = 5
 ·rw [if_pos h5] at ht
  have g1 : (o.kind == 5) = true := by rw [beq_iff_eq]; exact h5
  rw [ht] at hlen
  simp only [List.length_nil] at hlen
  have g2 : (((0 : Nat) : Int) == 0) = true := rfl
  rw [g1] at hi
  simp only [go_sem, cf135, ho, hi, hlen, g2]
 ·rw [if_neg h5] at ht
  have g1 : (o.kind == 5) = false := by rw [beq_eq_false_iff_ne]; exact h5
  rw [g1] at hi
  obtain ⟨t1, t2⟩ := ht
  rw [t1, t2] at ho
  simp only [go_sem, cf135, ho, hi]
theorem obj3_x (T : HtT tbl) (h136 : tbl 136 = some cf136) (h121 : tbl 121 = some cf121) (h145 : tbl 145 = some cf145) (h137 : tbl 137 = some cf137) (h138 : tbl 138 = some cf138) {M : Mem} {ob gb : Pos} {o : Ob} {sv gv : AV} {fl fl' : Bool} {os : List Ob} (ho : M.get ob = some (.cells (ObR o sv) fl)) (hgb : M.get gb = some (.cells [gv] fl')) (hg : GrIs M gv os) (hl : os.length < 2 ^ 20) (hs : SlIs M sv 2 (VlL o.slots)) (hf : ObFine os o) :
  CallW tbl 136 (.cons (.ptr ob 0) (.cons (.ptr gb 0) .nil)) M fun r M' => r = .ret (.bool true) ∧ But (fun _ => False) M M' := by
 refine CallW.wf fun hw => ?_
 refine CallW.intro h136 rfl (fr := .nod (.val .leaf (.ptr ob 0) .leaf) (.val .leaf (.ptr gb 0) .leaf)) rfl ?_
 simp only [ObR] at ho
 simp only [go_sem, cf136, ho]
 refine (contains_none1 h121 h145 (g := 137) (cap := .ptr gb 0) hs hf.len (fun v hv M' hw' b => slotcl_x T h137 h138 (hg.old b) (b.get _ _ id hgb) hl (hf.slots v hv))).use ?_
 rintro r M2 hw2 ⟨rfl, b2⟩
 simp only [go_sem]
 first | exact b2 | exact ⟨rfl, b2⟩
end Go.Proofs.Ythpnhdopheofcaa
end
section
namespace Go.Proofs.Ythpnhdopheofcaa
open Go.Dx
variable {tbl : Nat → Option CFunc}
theorem all_x (h : tbl 133 = some cf133) {M : Mem} {q : Pos} {g : Nat → Nat} {c : Nat → AV} {n : Nat} {l : List AV} {fl : Bool} (hn : n < 2 ^ 20) (hq : M.get q = some (.cells l fl)) (hl : ∀ i, i < n → l[i]? = some (.func (.func (g i)) .nil (c i)))
  (hcall : ∀ i, i < n → ∀ M', M'.wf → But (fun _ => False) M M' → CallW tbl (g i) (c i) M' fun r M'' => r = .ret (.bool true) ∧ But (fun _ => False) M' M'') :
  CallW tbl 133 (.cons (.slice q 0 n n) .nil) M fun r M' => r = .ret (.bool true) ∧ But (fun _ => False) M M' := by
 refine CallW.wf fun hw => ?_
 refine CallW.intro h rfl (fr := .nod (.val .leaf (.slice q 0 n n) .leaf) .leaf) rfl ?_
 simp only [go_sem, cf133]
 refine loop_wp (I := fun m fr M' => ∃ k : Nat, m + k = n ∧ M'.wf ∧ But (fun _ => False) M M' ∧ fr.get (.i (.i .h)) = some (.slice q 0 n n) ∧ fr.get (.o (.o (.o .h))) = some (.int 3 n) ∧ fr.get (.i (.o (.o .h))) = some (.int 3 k)) (n := n) ?_ ?_
 ·exact ⟨0, rfl, hw, But.refl _ _, rfl, rfl, rfl⟩
 ·rintro m fr M' ⟨k, i0, i1, i2, f1, f2, f3⟩
  cases m with
  | zero =>
   have g1 : decide ((k : Int) < (n : Int)) = false := by simp only [decide_eq_false_iff_not]; omega
   simp only [go_sem, f1, f2, f3, g1]
   first | exact i2 | exact ⟨rfl, i2⟩
  | succ m =>
   have hk : k < n := by omega
   have g1 : decide ((k : Int) < (n : Int)) = true := by simp only [decide_eq_true_eq]; omega
   have hq' := i2.get _ _ id hq
   have a1 : MB.cell (M'.get q) (0 + k * 1) = some (.func (.func (g k)) .nil (c k)) := by
    rw [hq']
    have := hl k hk
    simp only [MB.cell]
    rw [show 0 + k * 1 = k by omega]
    exact this
   have e1 : IntKind.i64.wrap ((k : Int) + 1) = ((k + 1 : Nat) : Int) := by rw [wrap64 (by omega) (by omega)]; omega
   simp only [go_sem, f1, f2, f3, g1, hk, a1]
   refine (hcall k hk M' i1 i2).use ?_
   rintro r M2 hw2 ⟨rfl, b2⟩
   simp only [go_sem, f1, f2, f3, e1]
   exact ⟨m, by omega, k + 1, by omega, hw2, i2.trans b2, by simp [Tr.get_set, f1], by simp [Tr.get_set, f2], by simp [Tr.get_set]⟩
end Go.Proofs.Ythpnhdopheofcaa
end
section
namespace Go.Proofs.Ythpnhdopheofcaa
open Go.Dx
variable {tbl : Nat → Option CFunc}
structure GrT (tbl : Nat → Option CFunc) : Prop where
 h54 : tbl 54 = some cf54
 h105 : tbl 105 = some cf105
 h106 : tbl 106 = some cf106
 h107 : tbl 107 = some cf107
 h121 : tbl 121 = some cf121
 h132 : tbl 132 = some cf132
 h133 : tbl 133 = some cf133
 h134 : tbl 134 = some cf134
 h135 : tbl 135 = some cf135
 h136 : tbl 136 = some cf136
 h137 : tbl 137 = some cf137
 h138 : tbl 138 = some cf138
 h145 : tbl 145 = some cf145
set_option maxHeartbeats 1000000 in
theorem obj_x (T : HtT tbl) (F : GrT tbl) {M : Mem} {gv sv : AV} {os : List Ob} {o : Ob} (hg : GrIs M gv os) (hl : os.length < 2 ^ 20) (hs : SlIs M sv 2 (VlL o.slots)) (hf : ObFine os o) :
  CallW tbl 107 (.cons (.agg (.cons gv .nil)) (.cons (ObA o sv) .nil)) M fun r M' => r = .ret (.bool true) ∧ But (fun _ => False) M M' := by
 refine CallW.wf fun hw => ?_
 have hgc := slIs_cell hg.choose_spec.1
 have hsc := slIs_cell hs
 refine CallW.intro F.h107 rfl (fr := .nod (.val .leaf (.agg (.cons gv .nil)) .leaf) (.val .leaf (ObA o sv) .leaf)) rfl ?_
 have b0 := But.new (S := fun _ => False) hw (.cells [gv] false)
 have w0 := hw.new (.cells [gv] false)
 have b1 := But.new (S := fun _ => False) w0 (.cells (ObR o sv) false)
 have w1 := w0.new (.cells (ObR o sv) false)
 have x0 : ((M.new (.cells [gv] false)).new (.cells (ObR o sv) false)).get M.next = some (.cells [gv] false) := by simp only [go_sem]
 have x1 : ((M.new (.cells [gv] false)).new (.cells (ObR o sv) false)).get M.next.succ = some (.cells (ObR o sv) false) := by simp only [go_sem]
 have n1 : ((M.new (.cells [gv] false)).new (.cells (ObR o sv) false)).next = M.next.succ.succ := rfl
 have g0 : (o.kind == 0) = false := by rw [beq_eq_false_iff_ne]; have := hf.kind.1; omega
 simp only [ObR] at b1 w1 x0 x1 n1
 simp only [go_sem, cf107, ObA, hgc, hsc, g0]
 generalize hM1 : (M.new (.cells [gv] false)).new (.cells [.int 3 o.kind, .int 3 o.count, sv, .str o.tl o.tn, .int 3 o.mark] false) = M1 at *
 have b01 := b0.trans b1
 have b2 := But.fill w1 (.cells [.bool false] false) (.cells [.bool (o.kind == 5)] false)
 have w2 := w1.fill (.cells [.bool false] false) (.cells [.bool (o.kind == 5)] false)
 have x2 : ((M1.new (.cells [.bool false] false)).put M1.next (.cells [.bool (o.kind == 5)] false)).get M1.next = some (.cells [.bool (o.kind == 5)] false) := by simp [Mem.put]
 have y0 := b2.get _ _ id x0
 have y1 := b2.get _ _ id x1
 have n2 : ((M1.new (.cells [.bool false] false)).put M1.next (.cells [.bool (o.kind == 5)] false)).next = M1.next.succ := rfl
 rw [n1] at b2 w2 x2 y0 y1 n2
 generalize hM2 : (M1.new (.cells [.bool false] false)).put M.next.succ.succ (.cells [.bool (o.kind == 5)] false) = M2 at *
 generalize hfs : [AV.func (Fn.func 134) AV.nil ((AV.ptr M.next.succ 0).cons AV.nil), AV.func (Fn.func 135) AV.nil ((AV.ptr M.next.succ.succ 0).cons ((AV.ptr M.next.succ 0).cons AV.nil)), AV.func (Fn.func 136) AV.nil ((AV.ptr M.next.succ 0).cons ((AV.ptr M.next 0).cons AV.nil))] = fs at *
 have b3 := But.new (S := fun _ => False) w2 (.cells fs false)
 have x3 : (M2.new (.cells fs false)).get M.next.succ.succ.succ = some (.cells fs false) := by simp [Mem.new, n2]
 have z0 := b3.get _ _ id y0
 have z1 := b3.get _ _ id y1
 have z2 := b3.get _ _ id x2
 have bb : But (fun _ => False) M (M2.new (.cells fs false)) := (b01.trans b2).trans b3
 have hg3 := hg.old bb
 have hs3 := hs.old bb.old
 refine (all_x F.h133 (n := 3) (l := fs) (g := fun i => if i = 0 then 134 else if i = 1 then 135 else 136) (c := fun i => if i = 0 then (AV.ptr M.next.succ 0).cons AV.nil else if i = 1 then (AV.ptr M.next.succ.succ 0).cons ((AV.ptr M.next.succ 0).cons AV.nil) else (AV.ptr M.next.succ 0).cons ((AV.ptr M.next 0).cons AV.nil)) (by decide) x3 (fun i hi => by
  rw [← hfs]
  match i, hi with
  | 0, _ => rfl
  | 1, _ => rfl
  | 2, _ => rfl) (fun i hi M' hw' b => by
  have c0 := b.get _ _ id z0
  have c1 := b.get _ _ id z1
  have c2 := b.get _ _ id z2
  match i, hi with
  | 0, _ =>
   refine (obj1_x F.h134 (o := o) c1 hf).mono ?_
   rintro r M'' ⟨rfl, rfl⟩
   exact ⟨rfl, But.refl _ _⟩
  | 1, _ =>
   refine (obj2_x F.h135 (o := o) c1 c2 (hs3.old b.old) hf).mono ?_
   rintro r M'' ⟨rfl, rfl⟩
   exact ⟨rfl, But.refl _ _⟩
  | 2, _ => exact obj3_x T F.h136 F.h121 F.h145 F.h137 F.h138 (o := o) c1 c0 (hg3.old b) hl (hs3.old b.old) hf)).use ?_
 rintro r M4 hw4 ⟨rfl, b4⟩
 simp only [go_sem]
 first | exact bb.trans b4 | exact ⟨rfl, bb.trans b4⟩
theorem check1_x (T : HtT tbl) (F : GrT tbl) {M : Mem} {gv sv : AV} {os : List Ob} {o : Ob} {gb : Pos} {fl : Bool} (hgb : M.get gb = some (.cells [gv] fl)) (hg : GrIs M gv os) (hl : os.length < 2 ^ 20) (hs : SlIs M sv 2 (VlL o.slots)) (hf : ObFine os o) :
  CallW tbl 106 (.cons (ObA o sv) (.cons (.ptr gb 0) .nil)) M fun r M' => r = .ret (.bool false) ∧ But (fun _ => False) M M' := by
 refine CallW.wf fun hw => ?_
 have hsc := slIs_cell hs
 refine CallW.intro F.h106 rfl (fr := .nod (.val .leaf (ObA o sv) .leaf) (.val .leaf (.ptr gb 0) .leaf)) rfl ?_
 have b1 := But.new (S := fun _ => False) hw (.cells [.int 3 o.kind, .int 3 o.count, sv, .str o.tl o.tn, .int 3 o.mark] false)
 have ne := hw.ne hgb
 simp only [go_sem, cf106, ObA, hsc, hgb, ne]
 refine (obj_x T F (o := o) (hg.old b1) hl (hs.old b1.old) hf).use ?_
 rintro r M2 hw2 ⟨rfl, b2⟩
 simp only [go_sem]
 first | exact b1.trans b2 | exact ⟨rfl, b1.trans b2⟩
theorem check_x (T : HtT tbl) (F : GrT tbl) {M : Mem} {gv : AV} {os : List Ob} (hg : GrIs M gv os) (hl : os.length < 2 ^ 20) (hf : ∀ o ∈ os, ObFine os o) :
  CallW tbl 54 (.cons (.agg (.cons gv .nil)) .nil) M fun r M' => r = .ret (.bool true) ∧ But (fun _ => False) M M' := by
 refine CallW.wf fun hw => ?_
 have hg0 := hg
 obtain ⟨sv, hs, hss⟩ := hg
 have hgc := slIs_cell hs
 refine CallW.intro F.h54 rfl (fr := .nod (.val .leaf (.agg (.cons gv .nil)) .leaf) .leaf) rfl ?_
 have b1 := But.new (S := fun _ => False) hw (.cells [gv] false)
 have x1 : (M.new (.cells [gv] false)).get M.next = some (.cells [gv] false) := by simp only [go_sem]
 have hg1 := hg0.old b1
 have hs1 := hs.old b1.old
 simp only [go_sem, cf54, hgc]
 refine (contains_noneO F.h105 F.h132 (g := 106) (cap := .ptr M.next 0) hs1 (by omega) (fun i hi M' hw' b => check1_x T F (b.get _ _ id x1) (hg1.old b) hl ((hss i hi).old (b1.trans b).old) (hf _ (List.getElem_mem hi)))).use ?_
 rintro r M2 hw2 ⟨rfl, b2⟩
 simp only [go_sem]
 first | exact b1.trans b2 | exact ⟨rfl, b1.trans b2⟩
end Go.Proofs.Ythpnhdopheofcaa
end
section
namespace Go.Proofs.Ythpnhdopheofcaa
open Go.Dx
variable {tbl : Nat → Option CFunc}
def cntI (n : Int) : List Int → Int
 | [] => 0
 | m :: l => (if m = n then 1 else 0) + cntI n l
theorem cntI_app (n : Int) (l r : List Int) : cntI n (l ++ r) = cntI n l + cntI n r := by
 induction l with
 | nil => simp [cntI]
 | cons m l ih => simp only [List.cons_append, cntI, ih]; omega
theorem cntI_nonneg (n : Int) (l : List Int) : 0 ≤ cntI n l := by
 induction l with
 | nil => exact Int.le_refl _
 | cons m l ih => simp only [cntI]; split <;> omega
theorem cntI_le (n : Int) (l : List Int) : cntI n l ≤ l.length := by
 induction l with
 | nil => exact Int.le_refl _
 | cons m l ih => simp only [cntI, List.length_cons]; split <;> omega
def cF (l : List Int) : AV → Option AV
 | .int _ n => if cntI n l = 0 then none else some (.int 3 (cntI n l))
 | _ => none
theorem cF_snoc (l : List Int) (m : Int) : ∀ a, intKey a → updF (cF l) (.int 3 m) (some (.int 3 (cntI m l + 1))) a = cF (l ++ [m]) a := by
 rintro a ⟨n, rfl⟩
 by_cases h : n = m
 ·subst h
  have h0 := cntI_nonneg n l
  rw [updF_same]
  simp only [cF, cntI_app, cntI, if_true]
  rw [if_neg (by omega)]
  congr 2
 ·rw [updF_ne _ _ (by simpa using h)]
  simp only [cF, cntI_app, cntI, if_neg (fun e : m = n => h e.symm)]
  simp
theorem cF_nil : ∀ a, intKey a → (fun _ => none : AV → Option AV) a = cF [] a := by
 rintro a ⟨n, rfl⟩
 simp [cF, cntI]
theorem cF_find {es : ME} {l : List Int} (h : MapIs (.leaf .int) intKey es (cF l)) (n : Int) : (es.find (.leaf .int) (.int 3 n) = some none ∧ cntI n l = 0) ∨ es.find (.leaf .int) (.int 3 n) = some (some (.int 3 (cntI n l))) := by
 have hf := h.find (.int 3 n) ⟨n, rfl⟩
 by_cases e : cntI n l = 0
 ·left; simp only [cF, if_pos e] at hf; exact ⟨hf, e⟩
 ·right; simp only [cF, if_neg e] at hf; exact hf
def allRefs (os : List Ob) : List Int := os.flatMap fun o => refsL o.slots
theorem allRefs_snoc (os : List Ob) (o : Ob) : allRefs (os ++ [o]) = allRefs os ++ refsL o.slots := by simp [allRefs]
theorem replI (n : Nat) (k : Int) : (repl (.cons (.int 3 k) .nil) n).isList = true ∧ (repl (.cons (.int 3 k) .nil) n).toL = List.replicate n (.int 3 k) := by
 induction n with
 | zero => exact ⟨rfl, rfl⟩
 | succ n ih =>
  obtain ⟨h1, h2⟩ := ih
  constructor
  ·simpa [repl, AV.app, AV.isList] using h1
  ·simp [repl, AV.app, AV.toL, h2, List.replicate_succ]
theorem makeInts (M : Mem) {n : Nat} (hn : n ≤ most) : makeO M (.cons (.int 3 0) .nil) 1 n n = some (M.next, M.new (.cells (List.replicate n (.int 3 0)) false)) := by
 obtain ⟨h1, h2⟩ := replI n 0
 unfold makeO
 rw [if_pos ⟨⟨Nat.le_refl _, hn, rfl⟩, h1⟩, h2]
 unfold Mem.row
 simp [isCell]
end Go.Proofs.Ythpnhdopheofcaa
end
section
namespace Go.Proofs.Ythpnhdopheofcaa
open Go.Dx
variable {tbl : Nat → Option CFunc}
theorem SlIs.past {M M1 M2 : Mem} {v : AV} {size : Nat} {L : List (List AV)} (h : SlIs M v size L) (hw : M.wf) {q : Pos} (b : But (fun p => p = q) M1 M2) (o : But (fun _ => False) M M1) (hq : M.next.num ≤ q.num) : SlIs M2 v size L := by
 by_cases hne : L = []
 ·subst hne
  exact ⟨h.1, h.2.1, fun hne => absurd rfl hne⟩
 ·exact (h.old o.old).but b (fun p o n hp e => by have := h.lt hw hne hp; rw [e] at this; omega)
def fillC (n k : Nat) (A : List Int) : List AV := (List.range n).map fun (i : Nat) => .int 3 (if i < k then cntI ((i : Int) + 1) A else 0)
theorem fillC_len (n k : Nat) (A : List Int) : (fillC n k A).length = n := by simp [fillC]
theorem fillC_zero (n : Nat) (A : List Int) : fillC n 0 A = List.replicate n (.int 3 0) := by
 refine List.ext_getElem (by simp [fillC]) fun i h1 h2 => ?_
 simp [fillC]
theorem fillC_full (n : Nat) (A : List Int) : fillC n n A = (IntL ((List.range n).map fun (i : Nat) => cntI ((i : Int) + 1) A)).flatten := by
 have e : ∀ l : List Int, (IntL l).flatten = l.map fun x => .int 3 x := by
  intro l; induction l with
  | nil => rfl
  | cons a l ih => simp only [IntL, List.map_cons, List.flatten_cons, List.singleton_append] at ih ⊢; rw [ih]
 rw [e]
 refine List.ext_getElem (by simp [fillC]) fun i h1 h2 => ?_
 have hi : i < n := by simpa [fillC] using h1
 simp [fillC, hi]
theorem fillC_over {n k : Nat} (A : List Int) (hk : k < n) : overL (fillC n k A) k [.int 3 (cntI ((k : Int) + 1) A)] = fillC n (k + 1) A := by
 have hl : k + [AV.int 3 (cntI ((k : Int) + 1) A)].length ≤ (fillC n k A).length := by rw [fillC_len]; exact hk
 refine List.ext_getElem? fun i => ?_
 rw [overL_get hl]
 by_cases hi : i < n
 ·have e : ∀ m, (fillC n m A)[i]? = some (.int 3 (if i < m then cntI ((i : Int) + 1) A else 0)) := fun m => by simp [fillC, hi]
  rw [e, e]
  by_cases h1 : i < k
  ·rw [if_pos h1, if_pos h1, if_pos (by omega)]
  ·by_cases h2 : i = k
   ·subst h2; simp
   ·rw [if_neg h1, if_neg (by simp; omega), if_neg h1, if_neg (by omega)]
 ·have e : ∀ m, (fillC n m A)[i]? = none := fun m => by simp [fillC, hi]
  rw [e, e, if_neg (by omega), if_neg (by simp; omega)]
theorem fillC_store {M : Mem} {q : Pos} {n k : Nat} {A : List Int} (h : M.get q = some (.cells (fillC n k A) false)) (hk : k < n) : M.store q (0 + k * 1) [.int 3 (cntI ((k : Int) + 1) A)] = some (M.put q (.cells (fillC n (k + 1) A) false)) := by
 unfold Mem.store
 rw [h]
 simp only [Nat.zero_add, Nat.mul_one]
 rw [if_pos ⟨by rw [fillC_len]; exact hk, rfl⟩, fillC_over A hk]
set_option maxHeartbeats 4000000 in
theorem into_x (T : HtT tbl) (F : GrT tbl) (h30 : tbl 30 = some cf30) (h108 : tbl 108 = some cf108) {M : Mem} {gv : AV} {os : List Ob} (hg : GrIs M gv os) (hl : os.length < 2 ^ 20) (hf : ∀ o ∈ os, ObFine os o) (hr : (allRefs os).length < 2 ^ 40) (hsl : ∀ o ∈ os, o.slots.length ≤ 2 ^ 30) :
  CallW tbl 108 (.cons (.agg (.cons gv .nil)) .nil) M fun r M' => (∃ v, r = .ret v ∧ SlIs M' v 1 (IntL ((List.range os.length).map fun (i : Nat) => cntI ((i : Int) + 1) (allRefs os)))) ∧ But (fun _ => False) M M' := by
 refine CallW.wf fun hw => ?_
 have hgc := slIs_cell hg.choose_spec.1
 refine CallW.intro h108 rfl (fr := .nod (.val .leaf (.agg (.cons gv .nil)) .leaf) .leaf) rfl ?_
 have b1 := But.new (S := fun _ => False) hw (.cells [gv] false)
 have w1 := hw.new (.cells [gv] false)
 have x1 : (M.new (.cells [gv] false)).get M.next = some (.cells [gv] false) := by simp only [go_sem]
 have n1 : (M.new (.cells [gv] false)).next = M.next.succ := rfl
 simp only [go_sem, cf108, hgc]
 generalize hM1 : M.new (.cells [gv] false) = M1 at *
 refine (check_x T F (hg.old b1) hl hf).use ?_
 rintro r M2 hw2 ⟨rfl, b2⟩
 have x2 := b2.get _ _ id x1
 have b12 := b1.trans b2
 have b3 := But.new (S := fun _ => False) hw2 (.map .nil 0)
 have w3 := hw2.new (.map .nil 0)
 have x3 := b3.get _ _ id x2
 have y3 : (M2.new (.map .nil 0)).get M2.next = some (.map .nil 0) := by simp [Mem.new]
 have hg2 := hg.old b12
 obtain ⟨sv, hs2, hss2⟩ := hg2
 have hs3 := hs2.old b3.old
 have hlen := hs3.len
 rw [grL_len] at hlen
 have nq : M.next ≠ M2.next := fun e => by have := hw2 _ _ x2; rw [e] at this; omega
 generalize hq : M.next = q at *
 have nqm : (q = M2.next) = False := eq_false nq
 simp only [go_sem, x2, nqm, hlen]
 generalize hM3 : M2.new (.map .nil 0) = M3 at *
 generalize hmp : M2.next = mp at *
 refine loop_wp (I := fun n fr M' => ∃ (k : Nat) (es : ME) (c : Nat), n + k = os.length ∧ M'.wf ∧ M'.get mp = some (.map es c) ∧ MapIs (.leaf .int) intKey es (cF (allRefs (os.take k))) ∧ But (fun p => p = mp) M3 M' ∧
  fr.get (.i .h) = some (.ptr q 0) ∧ fr.get (.i (.o .h)) = some (.map mp) ∧ fr.get (.i (.o (.o (.o .h)))) = some gv ∧ fr.get (.o (.i (.o (.o .h)))) = some (.int 3 os.length) ∧ fr.get (.i (.i (.o (.o .h)))) = some (.int 3 k)) (n := os.length) ?_ ?_
 ·exact ⟨0, .nil, 0, rfl, w3, y3, MapIs.nil.congr cF_nil, But.refl _ _, rfl, rfl, rfl, rfl, rfl⟩
 ·rintro n fr M' ⟨k, es, c, i0, i1, i2, i3, i4, f1, f2, f3, f4, f5⟩
  have x4 := i4.get _ _ nq x3
  cases n with
  | zero =>
   have e : k = os.length := by omega
   subst e
   have g : decide (((os.length : Nat) : Int) < (os.length : Int)) = false := by simp only [decide_eq_false_iff_not]; omega
   have hmk := makeInts M' (n := os.length) (by simp only [most]; omega)
   simp only [go_sem, f1, f2, f3, f4, f5, g, x4, hlen, hmk]
   have w7 := i1.new (.cells (List.replicate os.length (.int 3 0)) false)
   have y7 : (M'.new (.cells (List.replicate os.length (.int 3 0)) false)).get M'.next = some (.cells (fillC os.length 0 (allRefs os)) false) := by rw [fillC_zero]; simp [Mem.new]
   have b7 := But.new (S := fun _ => False) i1 (.cells (List.replicate os.length (.int 3 0)) false)
   have z7 := b7.get _ _ id i2
   have hn7 : M.next.num ≤ M'.next.num := Nat.le_trans b12.next (Nat.le_trans b3.next i4.next)
   have hmp0 : M.next.num ≤ mp.num := by rw [← hmp]; exact b12.next
   have nq7 : mp ≠ M'.next := fun e => by have := i1 _ _ i2; rw [e] at this; omega
   have bA : But (fun _ => False) M (M'.new (.cells (List.replicate os.length (.int 3 0)) false)) := But.fresh hw (((((b12.trans b3).any _).trans (i4.mono fun p e => .inr (by rw [e]; exact hmp0))).trans (b7.any _)))
   generalize M'.new (.cells (List.replicate os.length (.int 3 0)) false) = M7 at *
   generalize hq7 : M'.next = q7 at *
   rw [List.take_length] at i3
   refine loop_wp (I := fun m fr' M'' => ∃ (k : Nat), m + k = os.length ∧ M''.wf ∧ M''.get q7 = some (.cells (fillC os.length k (allRefs os)) false) ∧ M''.get mp = some (.map es c) ∧ But (fun p => p = q7) M7 M'' ∧
    fr'.get (.i (.o .h)) = some (.map mp) ∧ fr'.get (.o (.i (.o .h))) = some (.slice q7 0 os.length os.length) ∧ fr'.get (.o (.i (.o (.i (.o .h))))) = some (.int 3 os.length) ∧ fr'.get (.i (.i (.o (.i (.o .h))))) = some (.int 3 k)) (n := os.length) ?_ ?_
   ·exact ⟨0, rfl, w7, y7, z7, But.refl _ _, by simp [Tr.get_set, f2], by simp [Tr.get_set], by simp [Tr.get_set], by simp [Tr.get_set]⟩
   ·rintro m fr' M'' ⟨k, j0, j1, j2, j3, j4, k1, k2, k3, k4⟩
    cases m with
    | zero =>
     have e : k = os.length := by omega
     subst e
     have g2 : decide (((os.length : Nat) : Int) < (os.length : Int)) = false := by simp only [decide_eq_false_iff_not]; omega
     simp only [go_sem, k1, k2, k3, k4, g2]
     refine ⟨⟨_, rfl, SlIs.made (X := IntL ((List.range os.length).map fun (i : Nat) => cntI ((i : Int) + 1) (allRefs os))) (by rw [j2]) (fillC_full _ _) (fun y hy => ?_) (by simp [IntL])⟩, But.fresh hw ((bA.any _).trans (j4.mono fun p e => .inr (by rw [e]; exact hn7)))⟩
     simp [IntL] at hy; obtain ⟨z, _, rfl⟩ := hy; rfl
    | succ m =>
     have hk : k < os.length := by omega
     have g2 : decide ((k : Int) < (os.length : Int)) = true := by simp only [decide_eq_true_eq]; omega
     have e1 : IntKind.i64.wrap ((k : Int) + 1) = (k : Int) + 1 := wrap64 (by omega) (by omega)
     have e2 : ((k : Int) + 1) = ((k + 1 : Nat) : Int) := by omega
     have hst := fillC_store j2 hk
     rcases cF_find i3 ((k : Int) + 1) with ⟨q1, q2⟩ | q1
     ·rw [q2] at hst
      simp only [go_sem, k1, k2, k3, k4, g2, e1, j3, q1, hk, hst]
      refine ⟨m, by omega, k + 1, by omega, j1.put j2 _, by simp [Mem.put], (by simp [Mem.put, nq7, j3]), j4.trans (But.put (S := fun p => p = q7) (p := q7) _ rfl _), by simp [Tr.get_set, k1], by simp [Tr.get_set, k2], by simp [Tr.get_set, k3], by simp [Tr.get_set]⟩
     ·simp only [go_sem, k1, k2, k3, k4, g2, e1, j3, q1, hk, hst]
      refine ⟨m, by omega, k + 1, by omega, j1.put j2 _, by simp [Mem.put], (by simp [Mem.put, nq7, j3]), j4.trans (But.put (S := fun p => p = q7) (p := q7) _ rfl _), by simp [Tr.get_set, k1], by simp [Tr.get_set, k2], by simp [Tr.get_set, k3], by simp [Tr.get_set]⟩
  | succ n =>
   have hk : k < os.length := by omega
   have g : decide ((k : Int) < (os.length : Int)) = true := by simp only [decide_eq_true_eq]; omega
   have hs' := SlIs.past hs2 hw2 i4 b3 (by rw [hmp]; exact Nat.le_refl _)
   obtain ⟨p, po, a1, a2⟩ := hs'.at_ (i := k) (by rw [grL_len]; exact hk)
   rw [grL_len] at a1
   rw [grL_at _ _ hk] at a2
   simp only [ObR] at a2
   have hsk := SlIs.past (hss2 k hk) hw2 i4 b3 (by rw [hmp]; exact Nat.le_refl _)
   have hskc := slIs_cell hsk
   have hlk := hsl _ (List.getElem_mem hk)
   have et : allRefs (os.take (k + 1)) = allRefs (os.take k) ++ refsL os[k].slots := by rw [List.take_succ_eq_append_getElem hk, allRefs_snoc]
   generalize os[k] = o at *
   have b5 := But.fill i1 (.cells [.int 3 0, .int 3 0, .nilslice, .str 0 0, .int 3 0] false) (.cells [.int 3 o.kind, .int 3 o.count, sv k, .str o.tl o.tn, .int 3 o.mark] false)
   have x5 : ((M'.new (.cells [.int 3 0, .int 3 0, .nilslice, .str 0 0, .int 3 0] false)).put M'.next (.cells [.int 3 o.kind, .int 3 o.count, sv k, .str o.tl o.tn, .int 3 o.mark] false)).get M'.next = some (.cells [.int 3 o.kind, .int 3 o.count, sv k, .str o.tl o.tn, .int 3 o.mark] false) := by simp [Mem.put]
   simp only [go_sem, f1, f2, f3, f4, f5, g, hk, a1, a2, hskc]
   refine (refs_x T h30 (hsk.old b5.old) hlk).use ?_
   rintro r M6 hw6 ⟨⟨rv, rfl, hrv⟩, b6⟩
   have hrl := hrv.len
   rw [intL_len] at hrl
   have hrn := refsL_len o.slots
   have z1 := (b5.trans b6).get _ _ id i2
   have z5 := b6.get _ _ id x5
   have e1 : IntKind.i64.wrap ((k : Int) + 1) = ((k + 1 : Nat) : Int) := by rw [wrap64 (by omega) (by omega)]; omega
   simp only [go_sem, z5, hrl]
   refine loop_wp (I := fun m fr' M'' => ∃ (j : Nat) (es' : ME) (c' : Nat), m + j = (refsL o.slots).length ∧ M''.wf ∧ M''.get mp = some (.map es' c') ∧ MapIs (.leaf .int) intKey es' (cF (allRefs (os.take k) ++ (refsL o.slots).take j)) ∧ But (fun p => p = mp) M6 M'' ∧
    fr'.get (.i .h) = some (.ptr q 0) ∧ fr'.get (.i (.o .h)) = some (.map mp) ∧ fr'.get (.i (.o (.o (.o .h)))) = some gv ∧ fr'.get (.o (.i (.o (.o .h)))) = some (.int 3 os.length) ∧ fr'.get (.i (.i (.o (.o .h)))) = some (.int 3 k) ∧
    fr'.get (.i (.o (.o (.i .h)))) = some rv ∧ fr'.get (.o (.i (.o (.i .h)))) = some (.int 3 (refsL o.slots).length) ∧ fr'.get (.i (.i (.o (.i .h)))) = some (.int 3 j)) (n := (refsL o.slots).length) ?_ ?_
   ·exact ⟨0, es, c, rfl, hw6, z1, by simpa using i3, But.refl _ _, by simp [Tr.get_set, f1], by simp [Tr.get_set, f2], by simp [Tr.get_set, f3], by simp [Tr.get_set, f4], by simp [Tr.get_set, f5], by simp [Tr.get_set], by simp [Tr.get_set], by simp [Tr.get_set]⟩
   ·rintro m fr' M'' ⟨j, es', c', j0, j1, j2, j3, j4, k1, k2, k3, k4, k5, k6, k7, k8⟩
    cases m with
    | zero =>
     have e : j = (refsL o.slots).length := by omega
     subst e
     have g2 : decide ((((refsL o.slots).length : Nat) : Int) < ((refsL o.slots).length : Int)) = false := by simp only [decide_eq_false_iff_not]; omega
     simp only [go_sem, k1, k2, k3, k4, k5, k6, k7, k8, g2, e1]
     rw [List.take_length] at j3
     exact ⟨n, by omega, k + 1, es', c', by omega, j1, j2, by rw [et]; exact j3, (i4.trans ((b5.trans b6).any _)).trans j4, by simp [Tr.get_set, k1], by simp [Tr.get_set, k2], by simp [Tr.get_set, k3], by simp [Tr.get_set, k4], by simp [Tr.get_set]⟩
    | succ m =>
     have hj : j < (refsL o.slots).length := by omega
     have g2 : decide ((j : Int) < ((refsL o.slots).length : Int)) = true := by simp only [decide_eq_true_eq]; omega
     obtain ⟨p6, po6, n6, c1, c2, c3⟩ := int_at hrv hj
     have np : p6 ≠ mp := fun e => by rw [e, z1] at c3; simp [MB.cell] at c3
     have c3' : MB.cell (M''.get p6) (po6 + j * 1) = some (.int 3 (refsL o.slots)[j]) := by
      cases hb : M6.get p6 with
      | none => rw [hb] at c3; cases c3
      | some b => rw [j4.get p6 b np hb, ← hb]; exact c3
     have et2 : (refsL o.slots).take (j + 1) = (refsL o.slots).take j ++ [(refsL o.slots)[j]] := List.take_succ_eq_append_getElem hj
     have hle : (allRefs (os.take k) ++ (refsL o.slots).take j).length ≤ (allRefs os).length := by
      have e : allRefs os = allRefs (os.take (k + 1)) ++ allRefs (os.drop (k + 1)) := by
       have h := congrArg allRefs (List.take_append_drop (k + 1) os)
       rw [← h]
       simp only [allRefs, List.flatMap_append]
      rw [e, et]
      simp only [List.length_append, List.length_take]
      omega
     have hc0 := cntI_nonneg (refsL o.slots)[j] (allRefs (os.take k) ++ (refsL o.slots).take j)
     have hc1 := cntI_le (refsL o.slots)[j] (allRefs (os.take k) ++ (refsL o.slots).take j)
     generalize (refsL o.slots)[j] = x at *
     generalize hL : allRefs (os.take k) ++ (refsL o.slots).take j = L at *
     obtain ⟨es2, fr2, p1, p2⟩ := j3.put (goodInt 3) (a := .int 3 x) (v := .int 3 (cntI x L + 1)) ⟨_, rfl⟩ c'
     have p3 := p2.congr (cF_snoc L x)
     have e5 : IntKind.i64.wrap (cntI x L + 1) = cntI x L + 1 := wrap64 (by omega) (by omega)
     have e6 : IntKind.i64.wrap ((j : Int) + 1) = ((j + 1 : Nat) : Int) := by rw [wrap64 (by omega) (by omega)]; omega
     have eL : allRefs (os.take k) ++ (refsL o.slots).take (j + 1) = L ++ [x] := by rw [et2, ← List.append_assoc, hL]
     have bm : But (fun p => p = mp) M6 (M''.put mp (.map es2 (if fr2 = true then c' + 1 else c'))) := j4.trans (But.put (S := fun p => p = mp) (p := mp) _ rfl _)
     rcases cF_find j3 x with ⟨q1, q2⟩ | q1
     ·have e7 : cntI x L + 1 = 1 := by omega
      rw [e7] at p1
      have e8 : IntKind.i64.wrap 1 = 1 := rfl
      simp only [go_sem, k1, k2, k3, k4, k5, k6, k7, k8, g2, c1, c2, c3', j2, q1, e8, p1, e6]
      exact ⟨m, by omega, j + 1, es2, if fr2 = true then c' + 1 else c', by omega, j1.put j2 _, by simp [Mem.put], by rw [eL]; exact p3, bm, by simp [Tr.get_set, k1], by simp [Tr.get_set, k2], by simp [Tr.get_set, k3], by simp [Tr.get_set, k4], by simp [Tr.get_set, k5], by simp [Tr.get_set, k6], by simp [Tr.get_set, k7], by simp [Tr.get_set]⟩
     ·simp only [go_sem, k1, k2, k3, k4, k5, k6, k7, k8, g2, c1, c2, c3', j2, q1, e5, p1, e6]
      exact ⟨m, by omega, j + 1, es2, if fr2 = true then c' + 1 else c', by omega, j1.put j2 _, by simp [Mem.put], by rw [eL]; exact p3, bm, by simp [Tr.get_set, k1], by simp [Tr.get_set, k2], by simp [Tr.get_set, k3], by simp [Tr.get_set, k4], by simp [Tr.get_set, k5], by simp [Tr.get_set, k6], by simp [Tr.get_set, k7], by simp [Tr.get_set]⟩
end Go.Proofs.Ythpnhdopheofcaa
end
section
namespace Go.Proofs.Ythpnhdopheofcaa
open Go.Dx
variable {tbl : Nat → Option CFunc}
set_option maxHeartbeats 4000000 in
theorem exact_x (T : HtT tbl) (F : GrT tbl) (h30 : tbl 30 = some cf30) (h108 : tbl 108 = some cf108) (h55 : tbl 55 = some cf55) {M : Mem} {gv mv : AV} {os : List Ob} {ml : List Vl} (hg : GrIs M gv os) (hm : SlIs M mv 2 (VlL ml)) (hl : os.length < 2 ^ 20) (hf : ∀ o ∈ os, ObFine os o) (hr : (allRefs os).length < 2 ^ 40) (hsl : ∀ o ∈ os, o.slots.length ≤ 2 ^ 30) (hml : ml.length ≤ 2 ^ 30)
  (hx : ∀ i (hi : i < os.length), os[i].kind ≠ 0 → os[i].count = cntI ((i : Int) + 1) (allRefs os) + cntI ((i : Int) + 1) (refsL ml)) :
  CallW tbl 55 (.cons (.agg (.cons gv .nil)) (.cons mv .nil)) M fun r M' => r = .ret .nilslice ∧ But (fun _ => False) M M' := by
 refine CallW.wf fun hw => ?_
 have hgc := slIs_cell hg.choose_spec.1
 refine CallW.intro h55 rfl (fr := .nod (.val .leaf (.agg (.cons gv .nil)) .leaf) (.val .leaf mv .leaf)) rfl ?_
 have b1 := But.new (S := fun _ => False) hw (.cells [gv] false)
 have w1 := hw.new (.cells [gv] false)
 have x1 : (M.new (.cells [gv] false)).get M.next = some (.cells [gv] false) := by simp only [go_sem]
 have n1 : (M.new (.cells [gv] false)).next = M.next.succ := rfl
 simp only [go_sem, cf55, hgc]
 generalize hM1 : M.new (.cells [gv] false) = M1 at *
 have b2 := But.new (S := fun _ => False) w1 (.map .nil 0)
 have w2 := w1.new (.map .nil 0)
 have x2 := b2.get _ _ id x1
 have y2 : (M1.new (.map .nil 0)).get M1.next = some (.map .nil 0) := by simp [Mem.new]
 have b12 := b1.trans b2
 have nq : M.next ≠ M1.next := fun e => by have := w1 _ _ x1; rw [e] at this; omega
 refine (refs_x T h30 (hm.old b12.old) hml).use ?_
 rintro r M3 w3 ⟨⟨rv, rfl, hrv⟩, b3⟩
 have x3 := b3.get _ _ id x2
 have y3 := b3.get _ _ id y2
 have hrl := hrv.len
 rw [intL_len] at hrl
 have hrn := refsL_len ml
 have b13 := b12.trans b3
 have hg3 := hg.old b13
 have hmp0 : M.next.num ≤ M1.next.num := b1.next
 rw [n1] at y3 nq hmp0
 generalize hq : M.next = q at *
 generalize hmp : q.succ = mp at *
 simp only [go_sem, hrl]
 refine loop_wp (I := fun m fr' M'' => ∃ (j : Nat) (es' : ME) (c' : Nat), m + j = (refsL ml).length ∧ M''.wf ∧ M''.get mp = some (.map es' c') ∧ MapIs (.leaf .int) intKey es' (cF ((refsL ml).take j)) ∧ But (fun p => p = mp) M3 M'' ∧
  fr'.get (.o (.o .h)) = some (.ptr q 0) ∧ fr'.get (.i (.i .h)) = some (.map mp) ∧ fr'.get (.o (.i .h)) = some .nilslice ∧ 
  fr'.get (.o (.o (.o (.o .h)))) = some rv ∧ fr'.get (.i (.o (.o (.o .h)))) = some (.int 3 (refsL ml).length) ∧ fr'.get (.o (.i (.o (.o .h)))) = some (.int 3 j)) (n := (refsL ml).length) ?_ ?_
 ·exact ⟨0, .nil, 0, rfl, w3, y3, MapIs.nil.congr (by simpa using cF_nil), But.refl _ _, rfl, rfl, rfl, rfl, rfl, rfl⟩
 ·rintro m fr' M'' ⟨j, es', c', j0, j1, j2, j3, j4, k1, k2, k3, k4, k5, k6⟩
  cases m with
  | zero =>
   have e : j = (refsL ml).length := by omega
   subst e
   have g2 : decide ((((refsL ml).length : Nat) : Int) < ((refsL ml).length : Int)) = false := by simp only [decide_eq_false_iff_not]; omega
   have x4 := j4.get _ _ nq x3
   rw [List.take_length] at j3
   have bA : But (fun _ => False) M M'' := But.fresh hw ((b13.any _).trans (j4.mono fun p e => .inr (by rw [e, hq]; exact hmp0)))
   simp only [go_sem, k1, k2, k3, k4, k5, k6, g2, x4]
   refine (into_x T F h30 h108 (hg.old bA) hl hf hr hsl).use ?_
   rintro r M5 w5 ⟨⟨iv, rfl, hiv⟩, b5⟩
   have hil := hiv.len
   simp only [IntL, List.length_map, List.length_range] at hil
   have x5 := b5.get _ _ id x4
   have y5 := b5.get _ _ id j2
   have hg5 := (hg.old bA).old b5
   obtain ⟨sv, hs5, hss5⟩ := hg5
   simp only [go_sem, hil]
   refine loop_wp (I := fun m fr2 M6 => ∃ k : Nat, m + k = os.length ∧ M6.wf ∧ But (fun _ => False) M5 M6 ∧ fr2.get (.o (.i (.o .h))) = some .nilslice ∧ fr2.get (.o (.o .h)) = some (.ptr q 0) ∧ fr2.get (.i (.i .h)) = some (.map mp) ∧ fr2.get (.o (.o (.i (.i .h)))) = some iv ∧ fr2.get (.i (.o (.i (.i .h)))) = some (.int 3 os.length) ∧ fr2.get (.o (.i (.i (.i .h)))) = some (.int 3 k)) (n := os.length) ?_ ?_
   ·exact ⟨0, rfl, w5, But.refl _ _, by simp [Tr.get_set], by simp [Tr.get_set, k1], by simp [Tr.get_set, k2], by simp [Tr.get_set], by simp [Tr.get_set], by simp [Tr.get_set]⟩
   ·rintro m fr2 M6 ⟨k, h0, w6, b6, f1, f2, f3, f4, f5, f6⟩
    have x6 := b6.get _ _ id x5
    have y6 := b6.get _ _ id y5
    cases m with
    | zero =>
     have e : k = os.length := by omega
     subst e
     have g3 : decide (((os.length : Nat) : Int) < (os.length : Int)) = false := by simp only [decide_eq_false_iff_not]; omega
     simp only [go_sem, f1, f2, f3, f4, f5, f6, g3]
     exact bA.trans (b5.trans b6)
    | succ m =>
     have hk : k < os.length := by omega
     have g3 : decide ((k : Int) < (os.length : Int)) = true := by simp only [decide_eq_true_eq]; omega
     have e6 : IntKind.i64.wrap ((k : Int) + 1) = (k : Int) + 1 := wrap64 (by omega) (by omega)
     obtain ⟨pi, oi, ni, i1, i2, i3⟩ := int_at (hiv.old b6.old) (i := k) (by simpa using hk)
     simp only [List.getElem_map, List.getElem_range] at i3
     obtain ⟨p, po, a1, a2⟩ := (hs5.old b6.old).at_ (i := k) (by rw [grL_len]; exact hk)
     rw [grL_len] at a1
     rw [grL_at _ _ hk] at a2
     simp only [ObR] at a2
     have hskc := slIs_cell (hss5 k hk)
     have hxk := hx k hk
     generalize os[k] = o at *
     have b7 := But.fill w6 (.cells [.int 3 0, .int 3 0, .nilslice, .str 0 0, .int 3 0] false) (.cells [.int 3 o.kind, .int 3 o.count, sv k, .str o.tl o.tn, .int 3 o.mark] false)
     have w7 := w6.fill (.cells [.int 3 0, .int 3 0, .nilslice, .str 0 0, .int 3 0] false) (.cells [.int 3 o.kind, .int 3 o.count, sv k, .str o.tl o.tn, .int 3 o.mark] false)
     have y7 := b7.get _ _ id y6
     have nm : (mp = M6.next) = False := w6.ne y6
     have hA0 := cntI_nonneg ((k : Int) + 1) (allRefs os)
     have hA1 := cntI_le ((k : Int) + 1) (allRefs os)
     have hB0 := cntI_nonneg ((k : Int) + 1) (refsL ml)
     have hB1 := cntI_le ((k : Int) + 1) (refsL ml)
     by_cases hz : o.kind = 0
     ·have g4 : (o.kind != 0) = false := by simp [hz]
      simp only [go_sem, f1, f2, f3, f4, f5, f6, g3, x6, i1, i2, i3, a1, a2, hk, hskc, g4, e6]
      exact ⟨m, by omega, k + 1, by omega, w7, b6.trans b7, by simp [Tr.get_set, f1], by simp [Tr.get_set, f2], by simp [Tr.get_set, f3], by simp [Tr.get_set, f4], by simp [Tr.get_set, f5], by simp [Tr.get_set]⟩
     ·have g4 : (o.kind != 0) = true := by simp [hz]
      have hc := hxk hz
      rcases cF_find j3 ((k : Int) + 1) with ⟨q1, q2⟩ | q1
      ·have e8 : IntKind.i64.wrap (cntI ((k : Int) + 1) (allRefs os) + 0) = cntI ((k : Int) + 1) (allRefs os) := by rw [Int.add_zero]; exact wrap64 (by omega) (by omega)
       have g5 : (o.count != cntI ((k : Int) + 1) (allRefs os)) = false := by simp [hc, q2]
       simp only [go_sem, f1, f2, f3, f4, f5, f6, g3, x6, i1, i2, i3, a1, a2, hk, hskc, g4, nm, y6, e6, q1, e8, g5]
       exact ⟨m, by omega, k + 1, by omega, w7, b6.trans b7, by simp [Tr.get_set, f1], by simp [Tr.get_set, f2], by simp [Tr.get_set, f3], by simp [Tr.get_set, f4], by simp [Tr.get_set, f5], by simp [Tr.get_set]⟩
      ·have e8 : IntKind.i64.wrap (cntI ((k : Int) + 1) (allRefs os) + cntI ((k : Int) + 1) (refsL ml)) = cntI ((k : Int) + 1) (allRefs os) + cntI ((k : Int) + 1) (refsL ml) := wrap64 (by omega) (by omega)
       have g5 : (o.count != cntI ((k : Int) + 1) (allRefs os) + cntI ((k : Int) + 1) (refsL ml)) = false := by simp [hc]
       simp only [go_sem, f1, f2, f3, f4, f5, f6, g3, x6, i1, i2, i3, a1, a2, hk, hskc, g4, nm, y6, e6, q1, e8, g5]
       exact ⟨m, by omega, k + 1, by omega, w7, b6.trans b7, by simp [Tr.get_set, f1], by simp [Tr.get_set, f2], by simp [Tr.get_set, f3], by simp [Tr.get_set, f4], by simp [Tr.get_set, f5], by simp [Tr.get_set]⟩
  | succ m =>
   have hj : j < (refsL ml).length := by omega
   have g2 : decide ((j : Int) < ((refsL ml).length : Int)) = true := by simp only [decide_eq_true_eq]; omega
   obtain ⟨p6, po6, n6, c1, c2, c3⟩ := int_at hrv hj
   have np : p6 ≠ mp := fun e => by rw [e, y3] at c3; simp [MB.cell] at c3
   have c3' : MB.cell (M''.get p6) (po6 + j * 1) = some (.int 3 (refsL ml)[j]) := by
    cases hb : M3.get p6 with
    | none => rw [hb] at c3; cases c3
    | some b => rw [j4.get p6 b np hb, ← hb]; exact c3
   have et2 : (refsL ml).take (j + 1) = (refsL ml).take j ++ [(refsL ml)[j]] := List.take_succ_eq_append_getElem hj
   have hle : ((refsL ml).take j).length ≤ 2 ^ 30 := by rw [List.length_take]; omega
   have hc0 := cntI_nonneg (refsL ml)[j] ((refsL ml).take j)
   have hc1 := cntI_le (refsL ml)[j] ((refsL ml).take j)
   generalize (refsL ml)[j] = x at *
   generalize hL : (refsL ml).take j = L at *
   obtain ⟨es2, fr2, p1, p2⟩ := j3.put (goodInt 3) (a := .int 3 x) (v := .int 3 (cntI x L + 1)) ⟨_, rfl⟩ c'
   have p3 := p2.congr (cF_snoc L x)
   have e5 : IntKind.i64.wrap (cntI x L + 1) = cntI x L + 1 := wrap64 (by omega) (by omega)
   have e6 : IntKind.i64.wrap ((j : Int) + 1) = ((j + 1 : Nat) : Int) := by rw [wrap64 (by omega) (by omega)]; omega
   have bm : But (fun p => p = mp) M3 (M''.put mp (.map es2 (if fr2 = true then c' + 1 else c'))) := j4.trans (But.put (S := fun p => p = mp) (p := mp) _ rfl _)
   rcases cF_find j3 x with ⟨q1, q2⟩ | q1
   ·have e7 : cntI x L + 1 = 1 := by omega
    rw [e7] at p1
    have e8 : IntKind.i64.wrap 1 = 1 := rfl
    simp only [go_sem, k1, k2, k3, k4, k5, k6, g2, c1, c2, c3', j2, q1, e8, p1, e6]
    exact ⟨m, by omega, j + 1, es2, if fr2 = true then c' + 1 else c', by omega, j1.put j2 _, by simp [Mem.put], by rw [et2]; exact p3, bm, by simp [Tr.get_set, k1], by simp [Tr.get_set, k2], by simp [Tr.get_set, k3], by simp [Tr.get_set, k4], by simp [Tr.get_set, k5], by simp [Tr.get_set]⟩
   ·simp only [go_sem, k1, k2, k3, k4, k5, k6, g2, c1, c2, c3', j2, q1, e5, p1, e6]
    exact ⟨m, by omega, j + 1, es2, if fr2 = true then c' + 1 else c', by omega, j1.put j2 _, by simp [Mem.put], by rw [et2]; exact p3, bm, by simp [Tr.get_set, k1], by simp [Tr.get_set, k2], by simp [Tr.get_set, k3], by simp [Tr.get_set, k4], by simp [Tr.get_set, k5], by simp [Tr.get_set]⟩
end Go.Proofs.Ythpnhdopheofcaa
end
