import Derived.Test.YthpnhdopheofcaaDxWk
import Derived.Test.YthpnhdopheofcaaSx
import Derived.Test.YthpnhdopheofcaaDxAsl
set_option linter.unusedSimpArgs false
set_option linter.unusedVariables false
section
namespace Go.Proofs.Ythpnhdopheofcaa
open Go.Dx
variable {tbl : Nat → Option CFunc}
theorem SX.low {G : Hp} {s h : List Vl} (hX : SX G s h) : ∀ n o, G.objs n = some o → o.slots.length ≤ most := by
  intro n o ho
  have hl := hX.len
  by_cases h1 : n = 1
  · rw [h1, hX.o1] at ho; cases ho; simp
  · by_cases h2 : n = 2
    · rw [h2, hX.o2] at ho; cases ho; simp only [most]; omega
    · by_cases h3 : n = 3
      · rw [h3, hX.o3] at ho; cases ho; simp
      · rw [hX.no n h1 h2 h3] at ho; cases ho
theorem audit_x (T : SkT tbl) (F : GrT tbl) (h30 : tbl 30 = some cf30) (h108 : tbl 108 = some cf108) (h55 : tbl 55 = some cf55) (h53 : tbl 53 = some cf53) (h104 : tbl 104 = some ⟨.skip, [], some (.nat natLast)⟩)
    {M0 M : Mem} {sp hp q1 q2 : Pos} {P : Pos → Prop} {k j : Nat} {fr : Tr AV} {sv hv : AV} (hF : FX fr sv hv sp hp q1 q2 k) (hX : St M0 M sp hp P j) (hk : j ≤ 100) (hh : SlIs M hv 2 (VlL [fV, tV, coV])) :
    CCode.wp tbl audit9 fr M fun e fr' M' => e = .normal ∧ FX fr' sv hv sp hp q1 q2 k ∧ M'.wf ∧ But (fun _ => False) M M' := by
  obtain ⟨f1, f2, f3, f4, f5, f6, f7⟩ := hF
  obtain ⟨calls, s, hx, hi⟩ := hX
  obtain ⟨cv, hz⟩ := hx.spc
  obtain ⟨G, hS, hW⟩ := hx.st
  obtain ⟨own, Z, e1, e2, e3, hP, hB, hH⟩ := hS.open_ hz
  have hfine := hW.fine
  have hexact := hW.exact
  have hobj := hW.objs3
  have hlen := hi.len
  have hso : ∀ o ∈ (List.range 3).map (obAt G), o.slots.length ≤ 2 ^ 30 := by
    rw [hobj]; intro o ho
    simp only [List.mem_cons, List.not_mem_nil, or_false] at ho
    rcases ho with rfl | rfl | rfl
    · exact Nat.zero_le _
    · show s.length ≤ _; omega
    · exact Nat.zero_le _
  have hrl : (allRefs ((List.range 3).map (obAt G))).length < 2 ^ 40 := by
    rw [hobj]
    have := refsL_len s
    simp only [allRefs, List.flatMap_cons, List.flatMap_nil, List.append_nil, List.length_append]
    have e0 : (refsL []).length = 0 := rfl
    omega
  simp only [go_sem, audit9, in9, body9, loops9, lC, rC, cf9, f3]
  refine (graph_x T h53 h104 hH (N := 3) (by omega) (fun m hm => by have := (hW.tk m).1 hm; omega) (.inr ((hW.tk 3).2 (.inr (.inr rfl)))) hW.low).use ?_
  rintro r M1 w1 ⟨⟨gv, rfl, hg⟩, b1⟩
  have hgc := slIs_cell hg.choose_spec.1
  have b2 := But.fill w1 (.cells [.nilslice] false) (.cells [gv] false)
  have w2 := w1.fill (.cells [.nilslice] false) (.cells [gv] false)
  have x2 : ((M1.new (.cells [.nilslice] false)).put M1.next (.cells [gv] false)).get M1.next = some (.cells [gv] false) := by simp [Mem.put]
  simp only [go_sem, hgc]
  generalize hM2 : (M1.new (.cells [.nilslice] false)).put M1.next (.cells [gv] false) = M2 at *
  have hg2 := hg.old b2
  have hl3 : ((List.range 3).map (obAt G)).length < 2 ^ 20 := by simp
  refine (check_x T F hg2 hl3 hfine).use ?_
  rintro r M3 w3 ⟨rfl, b3⟩
  have x3 := b3.get _ _ id x2
  have b13 := (b1.trans b2).trans b3
  simp only [go_sem, x3, f6]
  refine (exact_x T F h30 h108 h55 (hg2.old b3) (hh.old b13.old) hl3 hfine hrl hso (by simp) hexact).use ?_
  rintro r M4 w4 ⟨rfl, b4⟩
  simp only [go_sem]
  exact ⟨⟨by simp [Tr.get_set, f1], by simp [Tr.get_set, f2], by simp [Tr.get_set, f3], by simp [Tr.get_set, f4], by simp [Tr.get_set, f5], by simp [Tr.get_set, f6], by simp [Tr.get_set, f7]⟩, w4, b13.trans b4⟩
end Go.Proofs.Ythpnhdopheofcaa
end
section
namespace Go.Proofs.Ythpnhdopheofcaa
open Go.Dx
variable {tbl : Nat → Option CFunc}
abbrev Mv := Int × Int × Int
def MovL (l : List Mv) : List (List AV) := l.map fun x => [.int 4 x.1, .int 4 x.2.1, .int 4 x.2.2]
theorem movL_len (l : List Mv) : (MovL l).length = l.length := by simp [MovL]
set_option maxHeartbeats 4000000 in
theorem stackCounts (T : SkT tbl) (F : GrT tbl) (h9 : tbl 9 = some cf9) (h13 : tbl 13 = some ⟨.skip, [], some (.val (.bool true))⟩) (h14 : tbl 14 = some cf14) (h16 : tbl 16 = some cf16) (h27 : tbl 27 = some cf27) (h30 : tbl 30 = some cf30) (h32 : tbl 32 = some cf32) (h33 : tbl 33 = some cf33) (h52 : tbl 52 = some cf52) (h53 : tbl 53 = some cf53) (h55 : tbl 55 = some cf55) (h79 : tbl 79 = some cf79) (h104 : tbl 104 = some ⟨.skip, [], some (.nat natLast)⟩) (h108 : tbl 108 = some cf108)
    {M : Mem} {sv : AV} {l : List Mv} (hl : SlIs M sv 3 (MovL l)) (hr : ∀ x ∈ l, (0 ≤ x.1 ∧ x.1 < 256) ∧ (0 ≤ x.2.1 ∧ x.2.1 < 256) ∧ (0 ≤ x.2.2 ∧ x.2.2 < 256)) :
    CallW tbl 9 (.cons sv .nil) M fun r _ => r = .ret (.bool true) := by
  refine CallW.wf fun hw => ?_
  refine CallW.intro h9 rfl (fr := .nod (.val .leaf sv .leaf) .leaf) rfl ?_
  rw [body9_eq]
  simp only [go_sem, cf9, lC, rC]
  refine CallW.konst h13 rfl ?_
  simp only [go_sem]
  refine (begun_x T h14 (P := fun p => p.num < M.next.num) (fun _ h => h)).use ?_
  rintro r M1 w1 ⟨hp, sp, rfl, ⟨G1, hS1, hN1⟩, b1, cv1, hz1⟩
  simp only [go_sem, VlA]
  have b2 := But.fill w1 (.cells [.int 3 0, .int 3 0] false) (.cells [.int 3 fV.k, .int 3 fV.n] false)
  have w2 := w1.fill (.cells [.int 3 0, .int 3 0] false) (.cells [.int 3 fV.k, .int 3 fV.n] false)
  have hlt2 : M1.next.num < ((M1.new (.cells [.int 3 0, .int 3 0] false)).put M1.next (.cells [.int 3 fV.k, .int 3 fV.n] false)).next.num := by show M1.next.num < M1.next.succ.num; rw [Pos.num_succ]; omega
  have x2 : ((M1.new (.cells [.int 3 0, .int 3 0] false)).put M1.next (.cells [.int 3 fV.k, .int 3 fV.n] false)).get M1.next = some (.cells [.int 3 fV.k, .int 3 fV.n] false) := by simp [Mem.put]
  have hS2 := hS1.wide b2 (q := M1.next) (Nat.le_refl _) hlt2
  have hz2 := b2.get _ _ id hz1
  generalize hM2 : (M1.new (.cells [.int 3 0, .int 3 0] false)).put M1.next (.cells [.int 3 fV.k, .int 3 fV.n] false) = M2 at *
  refine (smake_x T hS2 hz2 hN1).use ?_
  rintro r M3 w3 ⟨rfl, ⟨G3, hS3, hX3⟩, b3, hz3⟩
  have x3 := b3.get _ _ (fun e => e (.inr rfl)) x2
  simp only [go_sem, VlA]
  have b4 := But.fill w3 (.cells [.int 3 0, .int 3 0] false) (.cells [.int 3 tV.k, .int 3 tV.n] false)
  have w4 := w3.fill (.cells [.int 3 0, .int 3 0] false) (.cells [.int 3 tV.k, .int 3 tV.n] false)
  have hlt4 : M3.next.num < ((M3.new (.cells [.int 3 0, .int 3 0] false)).put M3.next (.cells [.int 3 tV.k, .int 3 tV.n] false)).next.num := by show M3.next.num < M3.next.succ.num; rw [Pos.num_succ]; omega
  have x4 := b4.get _ _ id x3
  have y4 : ((M3.new (.cells [.int 3 0, .int 3 0] false)).put M3.next (.cells [.int 3 tV.k, .int 3 tV.n] false)).get M3.next = some (.cells [.int 3 tV.k, .int 3 tV.n] false) := by simp [Mem.put]
  have hS4 := hS3.wide b4 (q := M3.next) (Nat.le_refl _) hlt4
  have hz4 := b4.get _ _ id hz3
  generalize hM4 : (M3.new (.cells [.int 3 0, .int 3 0] false)).put M3.next (.cells [.int 3 tV.k, .int 3 tV.n] false) = M4 at *
  have n4 : M4.next = M3.next.succ := by rw [← hM4]; rfl
  have bs : But (fun _ => False) M4 ⟨M3.next.succ.succ, M4.get⟩ := by rw [← n4]; exact But_reserve M4 _
  refine (co_spec T (hS4.quiet bs)).use ?_
  rintro r M5 w5 ⟨rfl, b5⟩
  have b45 := bs.trans b5
  have x5 := b5.get (M1.next) _ id x4
  have y5 := b5.get (M3.next) _ id y4
  have hq3 : M3.next.succ.num < M5.next.num := by
    have h1 := b5.next
    have h2 : M3.next.succ.num < M3.next.succ.succ.num := by rw [Pos.num_succ (M3.next.succ)]; omega
    exact Nat.lt_of_lt_of_le h2 h1
  have hS5 := hS4.wide b45 (q := M3.next.succ) (by rw [n4]; exact Nat.le_refl _) hq3
  have hz5 := b45.get _ _ id hz4
  simp only [go_sem, VlA, x4, y4, x5, y5]
  refine ⟨hq3, ?_⟩
  generalize hq3' : M3.next.succ = q3 at *
  have w6 : (M5.put q3 (.cells [.int 3 fV.k, .int 3 fV.n, .int 3 tV.k, .int 3 tV.n, .int 3 8, .int 3 2] false)).wf := fun q c hq => by
    show q.num < M5.next.num
    simp only [Mem.put] at hq
    split at hq
    · rename_i e; rw [e]; exact hq3
    · exact w5 q c hq
  have bp : But (fun p => p = q3) M5 (M5.put q3 (.cells [.int 3 fV.k, .int 3 fV.n, .int 3 tV.k, .int 3 tV.n, .int 3 8, .int 3 2] false)) := But.put (S := fun p => p = q3) (p := q3) _ rfl _
  have z6 : (M5.put q3 (.cells [.int 3 fV.k, .int 3 fV.n, .int 3 tV.k, .int 3 tV.n, .int 3 8, .int 3 2] false)).get q3 = some (.cells [.int 3 fV.k, .int 3 fV.n, .int 3 tV.k, .int 3 tV.n, .int 3 8, .int 3 2] false) := by simp [Mem.put]
  generalize hM6 : M5.put q3 (.cells [.int 3 fV.k, .int 3 fV.n, .int 3 tV.k, .int 3 tV.n, .int 3 8, .int 3 2] false) = M6 at *
  have hn01 := b1.next
  have hn12 := b2.next
  have hn23 := b3.next
  have hn34 := b4.next
  have hq3n : M.next.num ≤ q3.num := by rw [← n4]; omega
  have c1 : M1.next ≠ q3 := fun e => by have := w4 _ _ x4; rw [e, ← n4] at this; omega
  have c2 : M3.next ≠ q3 := fun e => by have := w4 _ _ y4; rw [e, ← n4] at this; omega
  have c3 : sp ≠ q3 := fun e => by have := w4 _ _ hz4; rw [e, ← n4] at this; omega
  have x6 := bp.get _ _ c1 x5
  have y6 := bp.get _ _ c2 y5
  have hz6 := bp.get _ _ c3 hz5
  have hS6 := hS5.frame (bp.mono fun p e => .inr e)
  have bOld : But (fun p => M.next.num ≤ p.num) M M6 := ((((b1.mono fun p e => by omega).trans (b2.any _)).trans (b3.mono fun p e => by have := fun h => e (.inl h); omega)).trans ((b4.trans b45).any _)).trans (bp.mono fun p e => by rw [e]; exact hq3n)
  have hS0 : St M6 M6 sp hp (fun p => ((p.num < M.next.num ∨ p = M1.next) ∨ p = M3.next) ∨ p = q3) 0 := ⟨[⟨0, 0, []⟩], [fV], ⟨w6, ⟨G3, hS6, hX3⟩, But.refl _ _, 2, cv1, hz6⟩, by decide, by decide, fun f hf => by rw [List.mem_singleton] at hf; subst hf; exact ⟨0, rfl, by decide⟩, List.pairwise_singleton _ _, fun f hf => by rw [List.mem_singleton] at hf; subst hf; exact ⟨by decide, fun t ht => by cases ht⟩⟩
  have old : ∀ {M' : Mem} {k : Nat}, St M6 M' sp hp (fun p => ((p.num < M.next.num ∨ p = M1.next) ∨ p = M3.next) ∨ p = q3) k → SlIs M' sv 3 (MovL l) ∧ M'.get M1.next = some (.cells [.int 3 fV.k, .int 3 fV.n] false) ∧ M'.get M3.next = some (.cells [.int 3 tV.k, .int 3 tV.n] false) ∧ SlIs M' (.slice q3 0 3 3) 2 (VlL [fV, tV, coV]) := fun {M'} {k} h =>
    ⟨hl.old (But.fresh hw ((bOld.mono fun p e => .inr e).trans (h.but.mono fun p e => .inr (by have := fun h' => e (.inl (.inl (.inl h'))); omega)))).old, h.but.get _ _ (fun e => e (.inl (.inl (.inr rfl)))) x6, h.but.get _ _ (fun e => e (.inl (.inr rfl))) y6, SlIs.made (X := VlL [fV, tV, coV]) (h.but.get _ _ (fun e => e (.inr rfl)) z6) rfl (by decide) rfl⟩
  rw [loops9_eq]
  have hlen := hl.len
  rw [movL_len] at hlen
  obtain ⟨N, hN⟩ : ∃ N, N = min l.length 100 := ⟨_, rfl⟩
  simp only [go_sem, lC, rC, cf9, body9, loops9, in9]
  refine loop_wp (I := fun n fr M' => ∃ k : Nat, n + k = N ∧ M'.wf ∧ FX fr sv (.slice q3 0 3 3) sp hp M1.next M3.next k ∧ St M6 M' sp hp (fun p => ((p.num < M.next.num ∨ p = M1.next) ∨ p = M3.next) ∨ p = q3) k) (n := N) ?_ ?_
  · exact ⟨0, rfl, w6, ⟨rfl, rfl, rfl, rfl, rfl, rfl, rfl⟩, hS0⟩
  · rintro n fr M' ⟨k, h0, w', hF, hX⟩
    have ⟨f1, f2, f3, f4, f5, f6, f7⟩ := hF
    obtain ⟨o1, o2, o3, o4⟩ := old hX
    cases n with
    | zero =>
      by_cases hle : l.length ≤ 100
      · have g1 : decide ((k : Int) < (l.length : Int)) = false := by simp only [decide_eq_false_iff_not]; omega
        simp only [go_sem, lC, rC, cf9, body9, loops9, in9, f1, f7, hlen, g1]
      · have g1 : decide ((k : Int) < (l.length : Int)) = true := by simp only [decide_eq_true_eq]; omega
        have g2 : decide ((k : Int) < 100) = false := by simp only [decide_eq_false_iff_not]; omega
        simp only [go_sem, lC, rC, cf9, body9, loops9, in9, f1, f7, hlen, g1, g2]
    | succ n =>
      have g1 : decide ((k : Int) < (l.length : Int)) = true := by simp only [decide_eq_true_eq]; omega
      have g2 : decide ((k : Int) < 100) = true := by simp only [decide_eq_true_eq]; omega
      have hi : k < l.length := by omega
      obtain ⟨p, po, a1, a2⟩ := o1.at_ (i := k) (by rw [movL_len]; exact hi)
      rw [movL_len] at a1
      have a2' : (MovL l)[k]? = some [.int 4 l[k].1, .int 4 l[k].2.1, .int 4 l[k].2.2] := by simp [MovL, List.getElem?_eq_getElem hi]
      rw [a2'] at a2
      obtain ⟨ha, hb, hc⟩ := hr _ (List.getElem_mem hi)
      generalize l[k] = mv at *
      obtain ⟨a, b, c⟩ := mv
      simp only at a2 ha hb hc
      have b7 := But.fill w' (.cells [.int 4 0, .int 4 0, .int 4 0] false) (.cells [.int 4 a, .int 4 b, .int 4 c] false)
      have w7 := w'.fill (.cells [.int 4 0, .int 4 0, .int 4 0] false) (.cells [.int 4 a, .int 4 b, .int 4 c] false)
      have x7 : ((M'.new (.cells [.int 4 0, .int 4 0, .int 4 0] false)).put M'.next (.cells [.int 4 a, .int 4 b, .int 4 c] false)).get M'.next = some (.cells [.int 4 a, .int 4 b, .int 4 c] false) := by simp [Mem.put]
      simp only [go_sem, lC, rC, cf9, body9, loops9, in9, f1, f7, hlen, g1, g2, a1, a2, hi]
      have hX7 := hX.quiet w7 b7
      have hq1 := b7.get _ _ id o2
      have hq2 := b7.get _ _ id o3
      refine CCode.wp_imp ?_ (act_x T h52 h16 h27 h32 h33 h79 (k := k) (sv := sv) (hv := .slice q3 0 3 3) ⟨by simp [Tr.get_set, f1], by simp [Tr.get_set, f2], by simp [Tr.get_set, f3], by simp [Tr.get_set, f4], by simp [Tr.get_set, f5], by simp [Tr.get_set, f6], by simp [Tr.get_set, f7]⟩ hX7 (by omega) (.inl (.inl (.inr rfl))) (.inl (.inr rfl)) hq1 hq2 ha hb hc x7 (by simp [Tr.get_set]))
      rintro e fr8 M8 ⟨rfl, hF8, w8, hX8, b8⟩
      simp only [go_sem]
      refine CCode.wp_imp ?_ (audit_x T F h30 h108 h55 h53 h104 hF8 hX8 (by omega) (old hX8).2.2.2)
      rintro e fr9 M9 ⟨rfl, hF9, w9, b9⟩
      have ⟨f1, f2, f3, f4, f5, f6, f7⟩ := hF9
      have e1 : IntKind.i64.wrap ((k : Int) + 1) = ((k + 1 : Nat) : Int) := by rw [wrap64 (by omega) (by omega)]; omega
      simp only [go_sem, f7, e1]
      exact ⟨n, by omega, k + 1, by omega, w9, ⟨by simp [Tr.get_set, f1], by simp [Tr.get_set, f2], by simp [Tr.get_set, f3], by simp [Tr.get_set, f4], by simp [Tr.get_set, f5], by simp [Tr.get_set, f6], by simp [Tr.get_set]⟩, hX8.quiet w9 b9⟩
end Go.Proofs.Ythpnhdopheofcaa
end
section
namespace Go.Proofs.Ythpnhdopheofcaa
open Go.Dx
variable {tbl : Nat → Option CFunc}
theorem u8_of {n : Int} (hn : (Lit.int .u8 n).wf = true) : 0 ≤ n ∧ n < 256 := by
  simp only [Lit.wf, IntKind.min, IntKind.max, IntKind.signed, IntKind.bits, Bool.and_eq_true, decide_eq_true_eq] at hn
  simp at hn
  omega
theorem movs_of : ∀ {xs : List (List AV)}, (∀ x ∈ xs, okRow [.i .u8, .i .u8, .i .u8] x) → ∃ l : List Mv, xs = MovL l ∧ ∀ x ∈ l, (0 ≤ x.1 ∧ x.1 < 256) ∧ (0 ≤ x.2.1 ∧ x.2.1 < 256) ∧ (0 ≤ x.2.2 ∧ x.2.2 < 256)
  | [], _ => ⟨[], rfl, fun x hx => by cases hx⟩
  | x :: r, h => by
    obtain ⟨l, rfl, hl⟩ := movs_of (xs := r) fun y hy => h y (List.mem_cons_of_mem _ hy)
    have hx := h x List.mem_cons_self
    rcases x with _ | ⟨a, _ | ⟨b, _ | ⟨c, _ | ⟨d, t⟩⟩⟩⟩
    · exact hx.elim
    · exact hx.2.elim
    · exact hx.2.2.elim
    · obtain ⟨⟨k, rfl, hk⟩, ⟨n, rfl, hn⟩, ⟨m, rfl, hm⟩, _⟩ := hx
      exact ⟨(k, n, m) :: l, rfl, fun x hx => by
        rcases List.mem_cons.1 hx with rfl | hx
        · exact ⟨u8_of hk, u8_of hn, u8_of hm⟩
        · exact hl x hx⟩
    · exact hx.2.2.2.elim
theorem counts_arg (T : SkT tbl) (F : GrT tbl) (h9 : tbl 9 = some cf9) {cw cl : CFunc} (h13 : tbl 13 = some cw) (hcw : cw = ⟨.skip, [], some (.val (.bool true))⟩) (h14 : tbl 14 = some cf14) (h16 : tbl 16 = some cf16) (h27 : tbl 27 = some cf27) (h30 : tbl 30 = some cf30) (h32 : tbl 32 = some cf32) (h33 : tbl 33 = some cf33) (h52 : tbl 52 = some cf52) (h53 : tbl 53 = some cf53) (h55 : tbl 55 = some cf55) (h79 : tbl 79 = some cf79) (h104 : tbl 104 = some cl) (hcl : cl = ⟨.skip, [], some (.nat natLast)⟩) (h108 : tbl 108 = some cf108)
    {W : World} {v : Value} {sv : AV} {len : Nat} {xs : List (List AV)} (h : ArgSl [.i .u8, .i .u8, .i .u8] W v sv len xs) :
    CallW tbl 9 (.cons sv .nil) (argM (argO sv xs)) fun r _ => r = .ret (.bool true) := by
  subst hcw hcl
  obtain ⟨l, rfl, hl⟩ := movs_of h.okRows
  have hr := h.rows
  exact stackCounts (l := l.take len) T F h9 h13 h14 h16 h27 h30 h32 h33 h52 h53 h55 h79 h104 h108 (by simpa [MovL, List.map_take] using hr) fun x hx => hl x (List.mem_of_mem_take hx)
end Go.Proofs.Ythpnhdopheofcaa
end
