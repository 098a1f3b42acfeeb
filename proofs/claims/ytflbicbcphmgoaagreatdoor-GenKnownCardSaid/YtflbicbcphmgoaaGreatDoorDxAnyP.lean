/-
  A range over a map of three texts whose order does not matter: what stands for it in the semantics, and that it does.
-/
import Derived.Test.YtflbicbcphmgoaaGreatDoorDxAny
import Derived.Great.BuildSlice
set_option linter.unusedSimpArgs false
set_option linter.unusedVariables false
set_option linter.unusedSectionVars false
namespace Go.Dx

section
variable {call : Nat → AV → Heap → Option (CR × Heap)} {yld : Pos → AV → Heap → Option (CR × Heap)} {ls : AV} {fr : Tr AV} {H : Heap} {q : RO} {ci : CI} {cs : CIs} {d : Option Pos}
theorem stepL (hr : CI.run call yld ls fr H ci = (ci.ev ls fr H).bind fun p => some (.ret p.1, p.2)) (h : CIs.run call yld (.cons none ci d cs) ls fr H = some q) :
    ∃ v H1, ci.ev ls fr H = some (v, H1) ∧ CIs.run call yld cs (.cons v ls) (setDst fr d v) H1 = some q := by
  simp only [CIs.run, wanted, hr] at h
  cases he : ci.ev ls fr H with
  | none => rw [he] at h; simp at h
  | some p =>
    obtain ⟨v, H1⟩ := p
    rw [he] at h
    exact ⟨v, H1, rfl, by simpa using h⟩
theorem load1_ev {x : Opd} {v : AV} {H1 : Heap} (h : (CI.load1 x).ev ls fr H = some (v, H1)) : H1 = H ∧ ∃ p off, x.ev ls fr = some (.ptr p off) ∧ H.cell p off = some v := by
  obtain ⟨u, hu, h⟩ := bindO h
  split at h
  · obtain ⟨c, hc, h⟩ := bindO h
    cases h
    exact ⟨rfl, _, _, hu, hc⟩
  · cases h
theorem fieldAddr_ev {x : Opd} {o : Nat} {v : AV} {H1 : Heap} (h : (CI.fieldAddr o x).ev ls fr H = some (v, H1)) : H1 = H ∧ ∃ p off, x.ev ls fr = some (.ptr p off) ∧ v = .ptr p (off + o) := by
  obtain ⟨u, hu, h⟩ := bindO h
  split at h
  · cases h
    exact ⟨rfl, _, _, hu, rfl⟩
  · cases h
theorem idx0_ev {x : Opd} {sz : Nat} {v : AV} {H1 : Heap} (h : (CI.idxSl sz x (.lit (.int 3 0))).ev ls fr H = some (v, H1)) : H1 = H ∧ ∃ p off n, ((∃ c, x.ev ls fr = some (.slice p off n c)) ∨ (∃ c, x.ev ls fr = some (.oslice p off n c))) ∧ 0 < n ∧ v = .ptr p off := by
  obtain ⟨y, hy, h⟩ := bindO h
  split at h
  · split at h
    · rename_i hn
      cases h
      exact ⟨rfl, _, _, _, .inl ⟨_, hy⟩, hn, by simp⟩
    · cases h
  · split at h
    · rename_i hn
      cases h
      exact ⟨rfl, _, _, _, .inr ⟨_, hy⟩, hn, by simp⟩
    · cases h
  · cases h
theorem cmp_ev {x : Opd} {k : Int} {v : AV} {H1 : Heap} (h : (CI.cmp .eql x (.lit (.int 3 k))).ev ls fr H = some (v, H1)) : H1 = H ∧ ∃ n, x.ev ls fr = some (.int 3 n) ∧ v = .bool (n == k) := by
  obtain ⟨u, hu, h⟩ := bindO h
  obtain ⟨p, hp, h⟩ := bindO h
  obtain ⟨u2, hu2, h⟩ := bindO h
  cases hu2
  obtain ⟨p2, hp2, h⟩ := bindO h
  cases hp2
  obtain ⟨j, n⟩ := p
  simp only at h
  split at h
  · rename_i hj
    subst hj
    cases u with
    | int c m => cases hp; cases h; exact ⟨rfl, _, hu, rfl⟩
    | _ => cases hp
  · cases h
theorem scmp_ev {x : Opd} {k m : Nat} {v : AV} {H1 : Heap} (h : (CI.scmp .eql x (.lit (.str k m))).ev ls fr H = some (v, H1)) : H1 = H ∧ ∃ l n, x.ev ls fr = some (.str l n) ∧ v = .bool (l == k && n == m) := by
  obtain ⟨u, hu, h⟩ := bindO h
  obtain ⟨u2, hu2, h⟩ := bindO h
  cases hu2
  cases u with
  | str l n => cases h; exact ⟨rfl, _, _, hu, rfl⟩
  | _ => cases h

theorem plainR (hl : ci.isCall = false ∧ ci.light = true) : CI.run call yld ls fr H ci = (ci.ev ls fr H).bind fun p => some (.ret p.1, p.2) := by
  cases ci <;> first | (simp only [CI.run]; cases CI.ev _ _ _ _ <;> rfl) | (cases hl.1; done) | (cases hl.2; done)
theorem sLoad {x : Opd} (h : CIs.run call yld (.cons none (.load1 x) d cs) ls fr H = some q) : ∃ v p off, x.ev ls fr = some (.ptr p off) ∧ H.cell p off = some v ∧ CIs.run call yld cs (.cons v ls) (setDst fr d v) H = some q := by
  obtain ⟨v, H1, e, h⟩ := stepL (plainR ⟨rfl, rfl⟩) h
  obtain ⟨e1, p, off, a, b⟩ := load1_ev e
  rw [e1] at h
  exact ⟨v, p, off, a, b, h⟩
theorem sField {x : Opd} {o : Nat} (h : CIs.run call yld (.cons none (.fieldAddr o x) d cs) ls fr H = some q) : ∃ p off, x.ev ls fr = some (.ptr p off) ∧ CIs.run call yld cs (.cons (.ptr p (off + o)) ls) (setDst fr d (.ptr p (off + o))) H = some q := by
  obtain ⟨v, H1, e, h⟩ := stepL (plainR ⟨rfl, rfl⟩) h
  obtain ⟨e1, p, off, a, b⟩ := fieldAddr_ev e
  rw [e1, b] at h
  exact ⟨p, off, a, h⟩
theorem sIdx {x : Opd} {sz : Nat} (h : CIs.run call yld (.cons none (.idxSl sz x (.lit (.int 3 0))) d cs) ls fr H = some q) : ∃ p off n, ((∃ c, x.ev ls fr = some (.slice p off n c)) ∨ (∃ c, x.ev ls fr = some (.oslice p off n c))) ∧ 0 < n ∧ CIs.run call yld cs (.cons (.ptr p off) ls) (setDst fr d (.ptr p off)) H = some q := by
  obtain ⟨v, H1, e, h⟩ := stepL (plainR ⟨rfl, rfl⟩) h
  obtain ⟨e1, p, off, n, a, b, c⟩ := idx0_ev e
  rw [e1, c] at h
  exact ⟨p, off, n, a, b, h⟩
theorem sCmp {x : Opd} {k : Int} (h : CIs.run call yld (.cons none (.cmp .eql x (.lit (.int 3 k))) d cs) ls fr H = some q) : ∃ n, x.ev ls fr = some (.int 3 n) ∧ CIs.run call yld cs (.cons (.bool (n == k)) ls) (setDst fr d (.bool (n == k))) H = some q := by
  obtain ⟨v, H1, e, h⟩ := stepL (plainR ⟨rfl, rfl⟩) h
  obtain ⟨e1, n, a, b⟩ := cmp_ev e
  rw [e1, b] at h
  exact ⟨n, a, h⟩
theorem sScmp {x : Opd} {k m : Nat} (h : CIs.run call yld (.cons none (.scmp .eql x (.lit (.str k m))) d cs) ls fr H = some q) : ∃ l n, x.ev ls fr = some (.str l n) ∧ CIs.run call yld cs (.cons (.bool (l == k && n == m)) ls) (setDst fr d (.bool (l == k && n == m))) H = some q := by
  obtain ⟨v, H1, e, h⟩ := stepL (plainR ⟨rfl, rfl⟩) h
  obtain ⟨e1, l, n, a, b⟩ := scmp_ev e
  rw [e1, b] at h
  exact ⟨l, n, a, h⟩

theorem anyR_run {sz : Nat} {k : Int} {l1 n1 l2 n2 l3 n3 : Nat} (h : CIs.run call yld (anyR sz k l1 n1 l2 n2 l3 n3) .nil fr H = some q) :
    ∃ pb ob pp op s off n kd l t j2 j3 ls', fr.get (key 2) = some (.ptr pb ob) ∧ H.cell pb ob = some (.ptr pp op) ∧ ((∃ c, H.cell pp op = some (.slice s off n c)) ∨ (∃ c, H.cell pp op = some (.oslice s off n c))) ∧ 0 < n ∧
      H.cell s off = some (.int 3 kd) ∧ H.cell s (off + 1) = some (.str l t) ∧ H.cell s (off + 2) = some (.int 3 j2) ∧ H.cell s (off + 3) = some (.int 3 j3) ∧
      q = .ok ls' ((((fr.set (key 11) (.bool (kd == k))).set (key 13) (.bool (l == l1 && t == n1))).set (key 14) (.bool (l == l2 && t == n2))).set (key 15) (.bool (l == l3 && t == n3))) H := by
  unfold anyR at h
  obtain ⟨_, pb, ob, a1, a2, h⟩ := sLoad h
  obtain ⟨_, pp, op, b1, b2, h⟩ := sLoad h
  cases b1
  obtain ⟨s, off, n, c1, c2, h⟩ := sIdx h
  obtain ⟨_, _, _, d1, d2, h⟩ := sLoad h
  cases d1
  obtain ⟨_, _, d1, h⟩ := sField h
  cases d1
  obtain ⟨_, _, _, d1, e2, h⟩ := sLoad h
  cases d1
  obtain ⟨_, _, d1, h⟩ := sField h
  cases d1
  obtain ⟨_, _, _, d1, f2, h⟩ := sLoad h
  cases d1
  obtain ⟨_, d1, h⟩ := sCmp h
  cases d1
  obtain ⟨_, _, d1, h⟩ := sField h
  cases d1
  obtain ⟨_, _, _, d1, g2, h⟩ := sLoad h
  cases d1
  obtain ⟨_, d1, h⟩ := sCmp h
  cases d1
  obtain ⟨kd, d1, h⟩ := sCmp h
  cases d1
  obtain ⟨l, t, d1, h⟩ := sScmp h
  cases d1
  obtain ⟨_, _, d1, h⟩ := sScmp h
  cases d1
  obtain ⟨_, _, d1, h⟩ := sScmp h
  cases d1
  cases h
  refine ⟨pb, ob, pp, op, s, off, n, kd, l, t, _, _, _, a1, a2, ?_, c2, d2, e2, f2, g2, rfl⟩
  rcases c1 with ⟨c, hc⟩ | ⟨c, hc⟩
  · cases hc; exact .inl ⟨_, b2⟩
  · cases hc; exact .inr ⟨_, b2⟩
end

section
variable {tbl : Nat → Option CFunc} {fr : Tr AV} {H : Heap} {r : Ex × Tr AV × Heap}
theorem run_seq {n : Nat} {a b : CCode} (h : run tbl n (.seq a b) fr H = some r) : ∃ m, m < n ∧ ((∃ fr1 H1, run tbl m a fr H = some (.normal, fr1, H1) ∧ run tbl m b fr1 H1 = some r) ∨ (run tbl m a fr H = some r ∧ ∀ f g, r ≠ (.normal, f, g))) := by
  cases n with
  | zero => cases h
  | succ n =>
    refine ⟨n, Nat.lt_succ_self n, ?_⟩
    simp only [run, stepC] at h
    split at h
    · rename_i fr1 H1 h1
      exact .inl ⟨_, _, h1, h⟩
    · rename_i hne
      exact .inr ⟨h, fun f g e => hne f g (e ▸ h)⟩
theorem run_cond {n : Nat} {x : Opd} {a b : CCode} (h : run tbl n (.cond x a b) fr H = some r) : ∃ m, m < n ∧ ((condV fr x = some true ∧ run tbl m a fr H = some r) ∨ (condV fr x = some false ∧ run tbl m b fr H = some r)) := by
  cases n with
  | zero => cases h
  | succ n =>
    refine ⟨n, Nat.lt_succ_self n, ?_⟩
    simp only [run, stepC] at h
    split at h
    · rename_i h1; exact .inl ⟨h1, h⟩
    · rename_i h1; exact .inr ⟨h1, h⟩
    · cases h
theorem run_reg {n : Nat} {cs : CIs} (h : run tbl n (.region cs) fr H = some r) : ∃ m, m < n ∧ ((∃ ls fr' H', cs.run (doCall tbl (run tbl m)) (doYield (run tbl m)) .nil fr H = some (.ok ls fr' H') ∧ r = (.normal, fr', H')) ∨ (∃ v fr' H', cs.run (doCall tbl (run tbl m)) (doYield (run tbl m)) .nil fr H = some (.pan v fr' H') ∧ r = (.pan v, fr', H'))) := by
  cases n with
  | zero => cases h
  | succ n =>
    refine ⟨n, Nat.lt_succ_self n, ?_⟩
    simp only [run, stepC] at h
    split at h
    · rename_i h1; cases h; exact .inl ⟨_, _, _, h1, rfl⟩
    · rename_i h1; cases h; exact .inr ⟨_, _, _, h1, rfl⟩
    · cases h
theorem leave_run {n : Nat} {v : Int} {lv : CCode} (h : run tbl n (leaveC v lv) fr H = some r) : ∃ m, m < n ∧ run tbl m lv (fr.set (key 5) (.int 3 v)) H = some r ∧ ∀ f g, r ≠ (.normal, f, g) := by
  obtain ⟨m, hm, ⟨fr1, H1, h1, h2⟩ | ⟨h1, h2⟩⟩ := run_seq h
  · obtain ⟨m1, _, ⟨ls, f2, g2, h3, e⟩ | ⟨v, f2, g2, h3, e⟩⟩ := run_reg h1
    · cases e
      simp only [CIs.run, wanted, CI.run, CI.ev, Opd.ev] at h3
      cases h3
      obtain ⟨m2, hm2, ⟨fr3, H3, h4, h5⟩ | ⟨h4, h5⟩⟩ := run_seq h2
      · exact (run_stuck h5).elim
      · exact ⟨m2, by omega, h4, h5⟩
    · cases e
  · obtain ⟨m1, _, ⟨ls, f2, g2, h3, e⟩ | ⟨v, f2, g2, h3, e⟩⟩ := run_reg h1
    · exact (h2 _ _ e).elim
    · simp only [CIs.run, wanted, CI.run, CI.ev, Opd.ev] at h3
      cases h3
/-- How a leave ends: it returns, or it throws. -/
theorem ends_run {n : Nat} {cs : CIs} (h : run tbl n (.seq (.region cs) .ret) fr H = some r) : r.1 = .ret ∨ ∃ v, r.1 = .pan v := by
  obtain ⟨m, hm, ⟨fr1, H1, h1, h2⟩ | ⟨h1, h2⟩⟩ := run_seq h
  · cases m with
    | zero => cases h2
    | succ m => simp only [run, stepC] at h2; cases h2; exact .inl rfl
  · obtain ⟨m1, _, ⟨ls, f2, g2, h3, e⟩ | ⟨v, f2, g2, h3, e⟩⟩ := run_reg h1
    · exact (h2 _ _ e).elim
    · subst e; exact .inr ⟨_, rfl⟩

theorem any_run {n sz : Nat} {k : Int} {l1 n1 l2 n2 l3 n3 : Nat} {v1 v2 v3 : Int} {lv : CCode} (h : run tbl n (anyC sz k l1 n1 l2 n2 l3 n3 v1 v2 v3 lv) fr H = some r) :
    ∃ pb ob pp op s off m kd l t j2 j3, fr.get (key 2) = some (.ptr pb ob) ∧ H.cell pb ob = some (.ptr pp op) ∧ ((∃ c, H.cell pp op = some (.slice s off m c)) ∨ (∃ c, H.cell pp op = some (.oslice s off m c))) ∧ 0 < m ∧
      H.cell s off = some (.int 3 kd) ∧ H.cell s (off + 1) = some (.str l t) ∧ H.cell s (off + 2) = some (.int 3 j2) ∧ H.cell s (off + 3) = some (.int 3 j3) ∧
      ∃ b1 b2 b3 b4 fr1, fr1 = (((fr.set (key 11) (.bool b1)).set (key 13) (.bool b2)).set (key 14) (.bool b3)).set (key 15) (.bool b4) ∧
      ((((kd == k) = false ∨ ((l == l1 && t == n1) = false ∧ (l == l2 && t == n2) = false ∧ (l == l3 && t == n3) = false)) ∧ r = (.normal, fr1, H)) ∨
       (∃ v l' n', (kd == k) = true ∧ (l == l' && t == n') = true ∧ ((l' = l1 ∧ n' = n1 ∧ v = v1) ∨ (l' = l2 ∧ n' = n2 ∧ v = v2) ∨ (l' = l3 ∧ n' = n3 ∧ v = v3)) ∧ ∃ m, m < n ∧ run tbl m lv (fr1.set (key 5) (.int 3 v)) H = some r ∧ ∀ f g, r ≠ (.normal, f, g))) := by
  obtain ⟨m, hm, hh⟩ := run_seq h
  have hreg : ∃ fr1 H1, run tbl m (.region (anyR sz k l1 n1 l2 n2 l3 n3)) fr H = some (.normal, fr1, H1) ∧ run tbl m (.cond (.var (key 11)) (.cond (.var (key 13)) (leaveC v1 lv) (.cond (.var (key 14)) (leaveC v2 lv) (.cond (.var (key 15)) (leaveC v3 lv) .skip))) .skip) fr1 H1 = some r := by
    rcases hh with h | ⟨h1, h2⟩
    · exact h
    · exfalso
      obtain ⟨m1, _, ⟨ls, f2, g2, h3, e⟩ | ⟨v, f2, g2, h3, e⟩⟩ := run_reg h1
      · exact h2 _ _ e
      · obtain ⟨_, _, _, _, _, _, _, _, _, _, _, _, _, _, _, _, _, _, _, _, _, e⟩ := anyR_run h3
        cases e
  obtain ⟨fr1, H1, h1, h2⟩ := hreg
  obtain ⟨m1, _, ⟨ls, f2, g2, h3, e⟩ | ⟨v, f2, g2, h3, e⟩⟩ := run_reg h1
  · obtain ⟨pb, ob, pp, op, s, off, n, kd, l, t, j2, j3, ls', f1, f2, f3, f4, f5, f6, f7, f8, e2⟩ := anyR_run h3
    cases e2
    cases e
    refine ⟨pb, ob, pp, op, s, off, n, kd, l, t, j2, j3, f1, f2, f3, f4, f5, f6, f7, f8, (kd == k), (l == l1 && t == n1), (l == l2 && t == n2), (l == l3 && t == n3), _, rfl, ?_⟩
    generalize hfr : (((fr.set (key 11) (.bool (kd == k))).set (key 13) (.bool (l == l1 && t == n1))).set (key 14) (.bool (l == l2 && t == n2))).set (key 15) (.bool (l == l3 && t == n3)) = F at h2 ⊢
    have g11 : condV F (.var (key 11)) = some (kd == k) := by
      simp only [condV, Opd.ev, ← hfr]; rw [Tr.get_set_ne (by decide), Tr.get_set_ne (by decide), Tr.get_set_ne (by decide), Tr.get_set_same]
    have g13 : condV F (.var (key 13)) = some (l == l1 && t == n1) := by
      simp only [condV, Opd.ev, ← hfr]; rw [Tr.get_set_ne (by decide), Tr.get_set_ne (by decide), Tr.get_set_same]
    have g14 : condV F (.var (key 14)) = some (l == l2 && t == n2) := by
      simp only [condV, Opd.ev, ← hfr]; rw [Tr.get_set_ne (by decide), Tr.get_set_same]
    have g15 : condV F (.var (key 15)) = some (l == l3 && t == n3) := by
      simp only [condV, Opd.ev, ← hfr]; rw [Tr.get_set_same]
    have skip : ∀ {m : Nat}, run tbl m .skip F H = some r → r = (.normal, F, H) := by
      intro m hs
      cases m with
      | zero => cases hs
      | succ m => simp only [run, stepC] at hs; cases hs; rfl
    obtain ⟨m2, hm2, ⟨c1, h2⟩ | ⟨c1, h2⟩⟩ := run_cond h2
    · rw [g11] at c1
      cases c1' : (kd == k) with
      | false => rw [c1'] at c1; cases c1
      | true =>
        obtain ⟨m3, hm3, ⟨c2, h3⟩ | ⟨c2, h3⟩⟩ := run_cond h2
        · rw [g13] at c2
          obtain ⟨m4, hm4, k1, k2⟩ := leave_run h3
          exact .inr ⟨v1, l1, n1, rfl, by simpa using c2, .inl ⟨rfl, rfl, rfl⟩, m4, by omega, k1, k2⟩
        · rw [g13] at c2
          obtain ⟨m4, hm4, ⟨c3, h4⟩ | ⟨c3, h4⟩⟩ := run_cond h3
          · rw [g14] at c3
            obtain ⟨m5, hm5, k1, k2⟩ := leave_run h4
            exact .inr ⟨v2, l2, n2, rfl, by simpa using c3, .inr (.inl ⟨rfl, rfl, rfl⟩), m5, by omega, k1, k2⟩
          · rw [g14] at c3
            obtain ⟨m5, hm5, ⟨c4, h5⟩ | ⟨c4, h5⟩⟩ := run_cond h4
            · rw [g15] at c4
              obtain ⟨m6, hm6, k1, k2⟩ := leave_run h5
              exact .inr ⟨v3, l3, n3, rfl, by simpa using c4, .inr (.inr ⟨rfl, rfl, rfl⟩), m6, by omega, k1, k2⟩
            · rw [g15] at c4
              exact .inl ⟨.inr ⟨by simpa using c2, by simpa using c3, by simpa using c4⟩, skip h5⟩
    · rw [g11] at c1
      exact .inl ⟨.inl (by simpa using c1), skip h2⟩
  · obtain ⟨_, _, _, _, _, _, _, _, _, _, _, _, _, _, _, _, _, _, _, _, _, e2⟩ := anyR_run h3
    cases e2
end

theorem HRel.sameBut {P : Program} {ng : Nat} {ρ : Ren} {H : Heap} {w w' : World} (hH : HRel P ng ρ H w) (h : SameBut w w') : HRel P ng ρ H w' ∧ Step ρ H w ρ H w' := by
  obtain ⟨e1, e2, e3, e4, e5⟩ := h
  exact ⟨⟨fun p o L h1 h2 h3 => (hH.objs p o L h1 h2 h3).same (e5 _ (hH.bound p L h3)), hH.inj, fun p L hp => Nat.lt_of_lt_of_le (hH.bound p L hp) e4, hH.fresh, hH.globals, hH.wf, hH.loops⟩,
    ⟨Ext.refl ρ, e1, e2, e3, e4, fun b hb _ => e5 b hb, fun p L h1 h2 => .inr ⟨p, L, h1, h2, rfl⟩, Nat.le_refl _, fun p L h1 h2 => (by rw [h1] at h2; cases h2), fun _ _ h => h, fun _ _ _ h => ⟨h, fun L _ hb => e5 _ hb⟩⟩⟩
theorem SameBut.cell {w w' : World} (h : SameBut w w') {ad : Addr} {x : Value} (hc : w.cell? ad = some x) : w'.cell? ad = some x := by
  have hb : ad.block < w.heap.size := by
    rcases Nat.lt_or_ge ad.block w.heap.size with hb | hb
    · exact hb
    · unfold World.cell? at hc; rw [Array.getElem?_eq_none hb] at hc; cases hc
  unfold World.cell? at hc ⊢
  rw [h.2.2.2.2 _ hb]
  exact hc

/-- (*parse.parser).is of one text: what it answers. -/
def IsLaw (P : Program) (fis : FuncId) (kt : Int) : Prop :=
  ∀ (w : World) (bp op bs os len cap : Nat) (kd : Int) (tx : ByteArray) (j2 j3 : Int) (bv : Nat) (s : ByteArray), w.cell? ⟨bp, op, none⟩ = some (.slice (some ⟨bs, os, none⟩) len cap) → 0 < len →
    w.cell? ⟨bs, os, none⟩ = some (.int .i64 kd) → w.cell? ⟨bs, os + 1, none⟩ = some (.string tx) → w.cell? ⟨bs, os + 2, none⟩ = some (.int .i64 j2) → w.cell? ⟨bs, os + 3, none⟩ = some (.int .i64 j3) → w.cell? ⟨bv, 0, none⟩ = some (.string s) →
    Calls P fis #[.pointer (some ⟨bp, op, none⟩), .slice (some ⟨bv, 0, none⟩) 1 1] w fun e w' => e = .returned (.bool (kd == kt && tx.toList == s.toList)) ∧ SameBut w w'

theorem load_one {P : Program} {t : TypeId} (h : isAggP P t = some false) (w : World) (ad : Addr) (x : Value) (hc : w.cell? ad = some x) : (Instr.loadAt t (.pointer (some ad))).run P w = .ok x w := by
  unfold Instr.loadAt
  rw [runB (run_sureAddr ad w)]
  unfold loadVar
  rw [runB (run_isAgg h w)]
  simp only [Bool.false_eq_true, if_false]
  exact run_load hc
theorem slice_one {P : Program} {t e : TypeId} (hu : P.underlying t = some (.slice e)) (hi : (P.info? e).map (fun i => (i.size, i.zero.isSome)) = some (1, true)) (w : World) (s : ByteArray) :
    (Instr.buildSlice t 1 #[(0, .string s)]).run P w = .ok (.slice (some ⟨w.heap.size, 0, none⟩) 1 1) (w.alloc (.cells #[.string s] e)) := by
  obtain ⟨ie, hie, he⟩ := Option.map_eq_some_iff.1 hi
  simp only [Prod.mk.injEq] at he
  obtain ⟨h1, h2⟩ := he
  obtain ⟨z, hz⟩ := Option.isSome_iff_exists.1 h2
  refine run_buildSlice w t e 1 _ #[.string s] ie z hu hie hz (by rw [h1]; decide) (by rw [h1]; decide) ?_
  rw [h1, show Array.range (1 * 1) = #[0] from rfl]
  simp [Instr.fill, Value.cells]

theorem any_piece {P : Program} {C C1 : Ctx} {o0 o1 o2 o3 o4 o5 p0 p1 q0 q1 q2 q3 q4 r0 r1 r2 r3 : Oper} {i1 i2 i3 i4 b0 b1 : Nat} {leave : Code} {tm ts te tp tsl : TypeId} {fis : FuncId} {ats : Array TypeId} {sz : Nat}
    {l1 n1 l2 n2 l3 n3 : Nat} {v1 v2 v3 : Int} {cs : CIs}
    (I0 : IsOp o0 (some 7) (.makeMap tm none)) (I1 : IsOp o1 none (.insert tm (.tmp 7) (.const (.string (textOf l1 n1))) (.const (.int .i64 v1)))) (I2 : IsOp o2 none (.insert tm (.tmp 7) (.const (.string (textOf l2 n2))) (.const (.int .i64 v2))))
    (I3 : IsOp o3 none (.insert tm (.tmp 7) (.const (.string (textOf l3 n3))) (.const (.int .i64 v3)))) (I4 : IsOp o4 (some 8) (.move (.tmp 7))) (I5 : IsOp o5 (some 9) (.range tm (.tmp 8)))
    (J0 : IsOp p0 (some 10) (.next (.tmp 9) false)) (J1 : IsOp p1 (some 11) (.extract (.tmp 10) 0))
    (K0 : IsOp q0 (some 12) (.entry (.tmp 9))) (K1 : IsOp q1 (some 13) (.extract (.tmp 12) 0)) (K2 : IsOp q2 (some 14) (.extract (.tmp 12) 1)) (K3 : IsOp q3 (some 3) (.assign (.tmp 13))) (K4 : IsOp q4 (some 4) (.assign (.tmp 14)))
    (L0 : IsOp r0 (some 15) (.load tp (.tmp 1))) (L1 : IsOp r1 (some 16) (.move (.tmp 3))) (L2 : IsOp r2 (some 17) (.buildSlice tsl 1 #[(0, .tmp 16)])) (L3 : IsOp r3 (some 18) (.call { callee := .value (.func fis), args := #[.tmp 15, .tmp 17], argTypes := ats }))
    (hm : P.underlying tm = some (.map ts te)) (hk : P.underlying ts = some .string)
    (ht1 : n1 < 256 ^ l1) (ht2 : n2 < 256 ^ l2) (ht3 : n3 < 256 ^ l3) (h12 : (l1 == l2 && n1 == n2) = false) (h13 : (l1 == l3 && n1 == n3) = false) (h23 : (l2 == l3 && n2 == n3) = false)
    (hn2 : Instr.findNow .string (.string (textOf l2 n2)) [⟨.string (textOf l1 n1), .int .i64 v1, 0⟩] 0 = some none) (hn3 : Instr.findNow .string (.string (textOf l3 n3)) [⟨.string (textOf l1 n1), .int .i64 v1, 0⟩, ⟨.string (textOf l2 n2), .int .i64 v2, 1⟩] 0 = some none)
    (hbs : ∀ (w : World) (s : ByteArray), (Instr.buildSlice tsl 1 #[(0, .string s)]).run P w = .ok (.slice (some ⟨w.heap.size, 0, none⟩) 1 1) (w.alloc (.cells #[.string s] ts)))
    (hld : ∀ (w : World) (ad : Addr) (x : Value), w.cell? ad = some x → (Instr.loadAt tp (.pointer (some ad))).run P w = .ok x w)
    (hex : ∃ fn, P.funcs[fis]? = some fn ∧ fn.body.isSome = true ∧ fn.name ≠ "runtime.NumGoroutine") (his : IsLaw P fis 4)
    (hn : 19 ≤ C.n) (hng : C1.ng = C.ng) (hn1 : C1.n = C.n) (hf1 : C.far 1 = true) (hfm : ∀ t ∈ mods, C.far t = false) (hfar : ∀ t, C1.far t = (C.far t || t == 4)) (hlv : codeP P C1 leave = some (.seq (.region cs) .ret)) :
    PieceOk P C (Code.seq (.region i1 [o0, o1, o2, o3, o4, o5].toArray false) (.block b0 (.loop (.seq (.region i2 [p0, p1].toArray false) (.seq (.cond (.tmp 11) .skip (.exit b0))
      (.block b1 (.seq (.region i3 [q0, q1, q2, q3, q4].toArray false) (.seq (.region i4 [r0, r1, r2, r3].toArray false) (.cond (.tmp 18) leave .skip))))))))) (anyC sz 4 l1 n1 l2 n2 l3 n3 v1 v2 v3 (.seq (.region cs) .ret)) := by
  intro tbl n hC ro pl hrp fr H r hpl hrun ρ a w hF hH
  obtain ⟨pb, ob, pp, op, s, off, m, kd, l, t, j2, j3, f1, f2, f3, f4, f5, f6, f7, f8, b1, b2, b3, b4, fr1, hfr1, hcase⟩ := any_run hrun
  obtain ⟨y1, g1, h1⟩ := hF.far 1 _ hf1 f1
  obtain ⟨Lb, hLb, rfl⟩ := h1.ptr_eq
  obtain ⟨y2, g2, h2⟩ := hH.cell f2 hLb
  obtain ⟨Lp, hLp, rfl⟩ := h2.ptr_eq
  have hsl : ∃ Ls c, ρ s = some Ls ∧ w.cell? ⟨Lp.b, Lp.base + op, none⟩ = some (.slice (some ⟨Ls.b, Ls.base + off, none⟩) m c) := by
    rcases f3 with ⟨c, f3⟩ | ⟨c, f3⟩
    · obtain ⟨y3, g3, h3⟩ := hH.cell f3 hLp
      obtain ⟨Ls, hLs, _, rfl⟩ := h3.slice_eq
      exact ⟨Ls, c, hLs, g3⟩
    · obtain ⟨y3, g3, h3⟩ := hH.cell f3 hLp
      obtain ⟨Ls, hLs, ⟨cap, _, _, e⟩ | ⟨e, _⟩⟩ := h3
      · have : y3 = .slice (some ⟨Ls.b, Ls.base + off, none⟩) m cap := by simpa using e
        subst this
        exact ⟨Ls, cap, hLs, g3⟩
      · omega
  obtain ⟨Ls, c, hLs, g3⟩ := hsl
  obtain ⟨y5, g5, h5⟩ := hH.cell f5 hLs
  have : y5 = .int .i64 kd := by have := h5.2; simpa [kindOf] using this
  subst this
  obtain ⟨y6, g6, h6⟩ := hH.cell f6 hLs
  obtain ⟨htt, rfl⟩ := h6.str_eq
  obtain ⟨y7, g7, h7⟩ := hH.cell f7 hLs
  have : y7 = .int .i64 j2 := by have := h7.2; simpa [kindOf] using this
  subst this
  obtain ⟨y8, g8, h8⟩ := hH.cell f8 hLs
  have : y8 = .int .i64 j3 := by have := h8.2; simpa [kindOf] using this
  subst this
  rw [← Nat.add_assoc] at g6 g7 g8
  have teq : ∀ {l' n' : Nat}, n' < 256 ^ l' → ((textOf l t).toList == (textOf l' n').toList) = (l == l' && t == n') := fun hn' => eq_text htt hn'
  have hsz : C.n ≤ a.tmps.size := hF.size
  have e1 : a.eval (.tmp 1) = .pointer (some ⟨Lb.b, Lb.base + ob, none⟩) := by simp [Act.eval, g1]
  -- what stands in the frame behind it
  have frs : ∀ t v, C.far t = true → fr1.get (key (t + 1)) = some v → fr.get (key (t + 1)) = some v := by
    intro t v ht hv
    have nm : ∀ u, u ∈ mods → key (t + 1) ≠ key (u + 1) := by
      intro u hu e
      have := key_inj e
      have hut : u = t := by omega
      rw [← hut, hfm u hu] at ht
      cases ht
    rw [hfr1, Tr.get_set_ne (nm 14 (by decide)), Tr.get_set_ne (nm 13 (by decide)), Tr.get_set_ne (nm 12 (by decide)), Tr.get_set_ne (nm 10 (by decide))] at hv
    exact hv
  have hdl : dl fr1 = dl fr := by rw [hfr1]; exact (((dl_set (t := 14)).trans (dl_set (t := 13))).trans (dl_set (t := 12))).trans (dl_set (t := 10))
  refine any_walk (P := P) (ro := ro) (kd := kd) (tx := textOf l t) (pp := .pointer (some ⟨Lp.b, Lp.base + op, none⟩)) I0 I1 I2 I3 I4 I5 J0 J1 K0 K1 K2 K3 K4 L0 L1 L2 L3 hm hk hn2 hn3 hbs hex ?_ ?_ (by omega) ?_ ?_
  · intro w' hS
    rw [e1]
    exact hld w' _ _ (hS.cell g2)
  · intro w' bv s hS hcs
    exact his w' _ _ _ _ _ _ kd _ _ _ bv s (hS.cell g3) f4 (hS.cell g5) (hS.cell g6) (hS.cell g7) (hS.cell g8) hcs
  · intro hno a' w' hK hS
    rcases hcase with ⟨_, rfl⟩ | ⟨v, l', n', hk1, hk2, hv, _⟩
    · obtain ⟨q1, q2⟩ := hH.sameBut hS
      refine ⟨ρ, ⟨by rw [hK.size]; exact hF.size, fun t v ht hv => ?_⟩, q1, q2, ?_, trivial⟩
      · obtain ⟨x, hx, hr⟩ := hF.far t v ht (frs t v ht hv)
        refine ⟨x, ?_, hr⟩
        rw [hK.same t (fun hm => by rw [hfm t hm] at ht; cases ht)]
        exact hx
      · rw [hK.defers, hdl]; exact Marks.refl _ _ _ _ _ _ _
    · exfalso
      have hk1' : kd = 4 := by simpa using hk1
      have : ∀ la na, na < 256 ^ la → l' = la → n' = na → (textOf la na = textOf l1 n1 ∨ textOf la na = textOf l2 n2 ∨ textOf la na = textOf l3 n3) → False := by
        rintro la na hla rfl rfl hh
        have := hno _ hh
        rw [teq hla, hk2, hk1'] at this
        simp at this
      rcases hv with ⟨e1, e2, _⟩ | ⟨e1, e2, _⟩ | ⟨e1, e2, _⟩
      · exact this l1 n1 ht1 e1 e2 (.inl rfl)
      · exact this l2 n2 ht2 e1 e2 (.inr (.inl rfl))
      · exact this l3 n3 ht3 e1 e2 (.inr (.inr rfl))
  · intro s v hsv hmatch a' w' hK h4 hS
    rw [Bool.and_eq_true] at hmatch
    rcases hcase with ⟨hno, rfl⟩ | ⟨v', l', n', hk1, hk2, hv, m', hm', hlrun, hnn⟩
    · exfalso
      rcases hno with hno | ⟨z1, z2, z3⟩
      · rw [hmatch.1] at hno; cases hno
      · have h2 := hmatch.2
        rcases hsv with ⟨rfl, _⟩ | ⟨rfl, _⟩ | ⟨rfl, _⟩
        · rw [teq ht1, z1] at h2; cases h2
        · rw [teq ht2, z2] at h2; cases h2
        · rw [teq ht3, z3] at h2; cases h2
    · -- the same key
      have hvv : v = v' := by
        have h2 := hmatch.2
        simp only [Bool.and_eq_true, beq_iff_eq] at hk2
        obtain ⟨e1, e2⟩ := hk2
        have key3 : ∀ {la na va}, na < 256 ^ la → s = textOf la na → v = va → (l = la ∧ t = na) := by
          intro la na va hla hs _
          rw [hs, teq hla] at h2
          simpa using h2
        rcases hsv with ⟨hs, hv1⟩ | ⟨hs, hv1⟩ | ⟨hs, hv1⟩ <;> rcases hv with ⟨u1, u2, u3⟩ | ⟨u1, u2, u3⟩ | ⟨u1, u2, u3⟩
        · rw [hv1, u3]
        · obtain ⟨z1, z2⟩ := key3 ht1 hs hv1; exfalso; simp [← z1, ← z2, e1, e2, u1, u2] at h12
        · obtain ⟨z1, z2⟩ := key3 ht1 hs hv1; exfalso; simp [← z1, ← z2, e1, e2, u1, u2] at h13
        · obtain ⟨z1, z2⟩ := key3 ht2 hs hv1; exfalso; simp [← z1, ← z2, e1, e2, u1, u2] at h12
        · rw [hv1, u3]
        · obtain ⟨z1, z2⟩ := key3 ht2 hs hv1; exfalso; simp [← z1, ← z2, e1, e2, u1, u2] at h23
        · obtain ⟨z1, z2⟩ := key3 ht3 hs hv1; exfalso; simp [← z1, ← z2, e1, e2, u1, u2] at h13
        · obtain ⟨z1, z2⟩ := key3 ht3 hs hv1; exfalso; simp [← z1, ← z2, e1, e2, u1, u2] at h23
        · rw [hv1, u3]
      subst hvv
      obtain ⟨q1, q2⟩ := hH.sameBut hS
      have hF1 : FRel C1 ρ (fr1.set (key 5) (.int 3 v)) a'.tmps := by
        refine ⟨by rw [hn1, hK.size]; exact hF.size, fun t u ht hu => ?_⟩
        rw [hfar] at ht
        by_cases e4 : t = 4
        · subst e4
          rw [show (4 : Nat) + 1 = 5 from rfl, Tr.get_set_same] at hu
          cases hu
          exact ⟨_, h4, ⟨by decide, rfl⟩⟩
        · have ht' : C.far t = true := by simpa [e4] using ht
          rw [Tr.get_set_ne (fun e => e4 (by have := key_inj e; omega))] at hu
          obtain ⟨x, hx, hr⟩ := hF.far t u ht' (frs t u ht' hu)
          refine ⟨x, ?_, hr⟩
          rw [hK.same t (fun hm => by rw [hfm t hm] at ht'; cases ht')]
          exact hx
      have hpl' : Fits pl (.seq (.region cs) .ret) := hpl.seq.2.cond.1.cond.1.seq.2.seq.1
      refine wpIn_mono (hC ro pl hrp C1 leave _ _ H r hlv hng hpl' (run_le (Nat.le_of_lt hm') _ _ _ _ hlrun) ρ a' w' hF1 (by rw [hng]; exact q1)) ?_
      rintro e a'' w'' ⟨ρ', p1, p2, p3, p4, p5⟩
      refine ⟨?_, ρ', ⟨by rw [← hn1]; exact p1.size, fun t v ht hv => p1.far t v (by rw [hfar, ht]; rfl) hv⟩, by rw [← hng]; exact p2, q2.trans p3, ?_, p5⟩
      · rcases ends_run hlrun with he | ⟨u, he⟩ <;> rw [he] at p5 <;> cases e <;> first | exact .inl rfl | exact .inr ⟨_, rfl⟩ | exact p5.elim
      · have := p4.base q2.size
        rw [hK.defers, show dl (fr1.set (key 5) (.int 3 v)) = dl fr from (dl_set (t := 4)).trans hdl] at this
        exact this

end Go.Dx
