/-
  Operations, eighth part: what appends, copies, clears; new slices.
-/
import Derived.Test.YtpmfhinbmnaomaaGreatDoorDxOpG
set_option linter.unusedSimpArgs false
set_option linter.unusedVariables false
set_option linter.unusedSectionVars false
namespace Go.Dx

section
variable {P : Program} {C : Ctx} {ρ : Ren} {ns : List (Option Tmp)} {ls : AV} {fr : Tr AV} {a : Act} {H H' : Heap} {w : World} {v : AV} {ci : CI} {o : Oper}

theorem run_askRoom (n : Nat) (w : World) : (askRoom n).run P w = .ok () w := by
  unfold askRoom
  split <;> rfl

theorem zeros_any {zs : Array Value} {n : Nat} : ((Array.range (n * zs.size)).map (zs[· % zs.size]!)).size = n * zs.size := by simp

theorem few {t : TypeId} (h : fewP P t = true) : ∃ i, P.info? t = some i ∧ i.bytes ≤ 4096 := by
  unfold fewP at h
  split at h
  · rename_i i hi; exact ⟨i, hi, by simpa using h⟩
  · cases h

theorem wrap64_nat {n : Nat} (h : n ≤ most) : IntKind.i64.wrap (n : Int) = (n : Int) := by
  unfold most at h
  unfold IntKind.wrap
  have h1 : ((n : Int) % (2 ^ IntKind.i64.bits : Int)) = n := by
    show (n : Int) % 2 ^ 64 = n
    omega
  simp only [h1]
  rw [if_neg]
  simp only [Bool.and_eq_true, decide_eq_true_eq, not_and]
  intro _
  show ¬ (n : Int) ≥ 2 ^ 63
  omega

theorem ok_makeSlice (E : Env P C ρ ns ls fr a H w) {t : TypeId} {x y : Operand} (hci : opP P C ns (.makeSlice t x y) = some ci) (hev : ci.ev ls fr H = some (v, H')) :
    OpOk P C.ng ρ H w (do pure (.value (← Instr.makeSlice t (a.eval x) (a.eval y)))) v H' := by
  simp only [opP] at hci
  split at hci
  · rename_i e hu
    split at hci
    · rename_i z n x' y' hz hn hx hy
      split at hci
      · cases hci
      · rename_i hc
        simp only [not_or, Bool.not_eq_true, Bool.not_eq_false'] at hc
        obtain ⟨hn0, hfew⟩ := hc
        cases hci
        obtain ⟨u, hu1, g1⟩ := bindO hev
        obtain ⟨l, hl, g2⟩ := bindO g1
        obtain ⟨u', hu2, g3⟩ := bindO g2
        obtain ⟨c, hc, g4⟩ := bindO g3
        split at g4
        · rename_i hcond
          obtain ⟨c1, c2, c3⟩ := hcond
          obtain ⟨⟨p, H1⟩, hp, g5⟩ := bindO g4
          cases g5
          obtain ⟨k1, hxe⟩ := nat_eq (E.opd hx hu1) hl
          obtain ⟨k2, hye⟩ := nat_eq (E.opd hy hu2) hc
          obtain ⟨i, hi, hb⟩ := few hfew
          obtain ⟨zv, m, h1, h2, h3, h4, h5, h6⟩ := zeroCells_run hz w
          rw [hn] at h3; cases h3
          have hzr : RX ρ (repl z c) ((Array.range (c * n)).map (zv.cells[· % zv.cells.size]!)).toList := by
            rw [← h6, zeros_list (by rw [h6]; omega)]
            exact repl_rel (h2 ρ) h5 c
          obtain ⟨ρ', w', r1, r2, r3, r4⟩ := newRow_ok (P := P) E.H hp e hzr
          refine .ofVal ⟨ρ', w', .slice (some ⟨w.heap.size, 0, none⟩) l c, ?_, ⟨_, r2, c1, rfl⟩, r3, r4⟩
          rw [hxe, hye]
          unfold Instr.makeSlice
          rw [runB (run_underlying hu w)]
          simp only
          have ai : ∀ (k : IntKind) (j : Int), (Go.asInt (.int k j)).run P w = .ok j w := fun _ _ => rfl
          rw [runB (ai _ _), runB (ai _ _), runB (run_typeInfo hi w)]
          have hwl := wrap64_nat (n := l) (by unfold most at *; omega)
          have hwc := wrap64_nat (n := c) c2
          rw [hwl, hwc]
          have hbig : (i.bytes : Int) * (c : Int) ≤ 2 ^ 48 := by
            have h1 : i.bytes * c ≤ 4096 * 17179869184 := Nat.mul_le_mul hb c2
            have h2 : ((i.bytes * c : Nat) : Int) ≤ 281474976710656 := by omega
            rw [Int.natCast_mul] at h2
            exact h2
          have hif : ((decide ((c : Int) < 0) || decide ((i.bytes : Int) * (c : Int) > 2 ^ 48)) || decide ((l : Int) < 0) || decide ((l : Int) > (c : Int))) = false := by
            simp only [Bool.or_eq_false_iff, decide_eq_false_iff_not]
            refine ⟨⟨⟨?_, ?_⟩, ?_⟩, ?_⟩ <;> omega
          rw [if_neg (by rw [hif]; simp)]
          rw [runB (run_askRoom _ w), runB (run_sizeOf hn w)]
          simp only [Int.toNat_natCast]
          by_cases hcn : c * n = 0
          · rw [if_pos hcn, runB (runP P _ w)]
            have hc0 : c = 0 := by
              rcases Nat.mul_eq_zero.1 hcn with h | h
              · exact h
              · omega
            subst hc0
            have e0 : ∀ zs : Array Value, (Array.range (0 * n)).map (zs[· % zs.size]!) = #[] := fun zs => by simp
            simp only [e0] at r1 ⊢
            rw [runB r1]
            rfl
          · rw [if_neg hcn, runB h1, runB (runP P _ w), runB r1]
            rfl
        · cases g4
    · cases hci
  · cases hci

/-! Appending. -/
theorem growBy_le (need : Nat) : ∀ (r c : Nat), c < need → Builtin.growBy need r c ≤ 2 * need + 1000 := by
  intro r
  induction r with
  | zero => intro c h; unfold Builtin.growBy; omega
  | succ r ih =>
    intro c h
    unfold Builtin.growBy
    rw [if_neg (by omega)]
    by_cases h2 : c + (c + 768) / 4 < need
    · exact ih _ h2
    · have : ∀ r, Builtin.growBy need r (c + (c + 768) / 4) = c + (c + 768) / 4 := by
        intro r
        cases r with
        | zero => rfl
        | succ r => unfold Builtin.growBy; rw [if_pos (by omega)]
      rw [this]
      omega
theorem nextcap_le {need cap : Nat} (h : cap < need) : Builtin.nextslicecap need cap ≤ 2 * need + 1000 := by
  unfold Builtin.nextslicecap
  split
  · omega
  · split
    · omega
    · exact growBy_le need 4 cap h

/-- What is appended: so many elements' cells. -/
inductive Src (P : Program) (w : World) (e : TypeId) (size : Nat) (xt : TypeId) (x : Value) (n : Nat) (nw : Array Value) : Prop where
  | cells (d : TypeDesc) (hu : P.underlying xt = some d) (hd : (∃ e', d = .slice e') ∨ d = .string) (hn : (Builtin.lenOf x).run P w = .ok n w) (hc : (Builtin.firstCells size n x).run P w = .ok nw w)
  | zeros (k : IntKind) (hu : P.underlying xt = some (.int k)) (k' : IntKind) (hx : x = .int k' (n : Int)) (hn : n ≤ most) (zv : Value) (hz : ∀ w, (zeroValue e).run P w = .ok zv w) (hs : zv.cells.size = size) (hc : nw = (Array.range (n * size)).map (zv.cells[· % zv.cells.size]!))

theorem Src.len {e : TypeId} {size : Nat} {xt : TypeId} {x : Value} {n : Nat} {nw : Array Value} (h : Src P w e size xt x n nw) : True := trivial

theorem zeroCells_eq (zs : Array Value) (n size : Nat) (h : zs.size = size) : Builtin.zeroCells zs n = (Array.range (n * size)).map (zs[· % zs.size]!) := by
  subst h; rfl

theorem run_append_fits {st xt : TypeId} {ts : Array TypeId} (h0 : ts[0]? = some st) (h1 : ts[1]? = some xt) {e : TypeId} (hu : P.underlying st = some (.slice e)) {size : Nat} (hn : sizeP P e = some size) {i : TypeInfo} (hi : P.info? e = some i) (hb : i.bytes ≤ 4096)
    {base : Option Addr} {sLen sCap n : Nat} {x : Value} {nw : Array Value} (hs : Src P w e size xt x n nw) (hfit : sLen + n ≤ sCap) {w' : World}
    (hst : (match base with | some b => storeCells (b.add (sLen * size)) nw.toList | none => pure () : Sem Unit).run P w = .ok () w') (r : TypeId) :
    (Builtin.append_ ts r #[.slice base sLen sCap, x]).run P w = .ok (.slice base (sLen + n) sCap) w' := by
  unfold Builtin.append_
  simp only [h0, h1, List.getElem?_toArray, List.getElem?_cons_zero, List.getElem?_cons_succ]
  rw [runB (run_underlying hu w)]
  simp only
  rw [runB (run_sizeOf hn w)]
  cases hs with
  | cells d hud hd hlen hc =>
    rw [runB (run_underlying hud w)]
    have hm : (match d with | .int _ => true | _ => false) = false := by
      rcases hd with ⟨e', rfl⟩ | rfl <;> rfl
    rcases hd with ⟨e', rfl⟩ | rfl
    all_goals
      simp only
      rw [runB (runP P _ w)]
      simp only [Bool.false_eq_true, if_false, Bool.not_false, if_true]
      rw [runB hlen, if_pos hfit, runB hc]
      cases base with
      | none => cases hst; rfl
      | some b => simp only at hst ⊢; rw [runB hst]; rfl
  | zeros k hud k' hx hnm zv hz hsz hc =>
    subst hx
    rw [runB (run_underlying hud w)]
    simp only
    rw [runB (runP P _ w)]
    have ai : ∀ (k : IntKind) (j : Int), (Go.asInt (.int k j)).run P w = .ok j w := fun _ _ => rfl
    simp only [if_true]
    rw [runB (ai _ _)]
    simp only [wrap64_nat hnm]
    rw [if_neg (by omega)]
    rw [runB (run_typeInfo hi w)]
    have hbig : ¬ ((n : Int) * (i.bytes : Int) > 2 ^ 48) := by
      have h1 : n * i.bytes ≤ 17179869184 * 4096 := Nat.mul_le_mul hnm hb
      have h2 : ((n * i.bytes : Nat) : Int) ≤ 281474976710656 := by omega
      rw [Int.natCast_mul] at h2
      omega
    rw [if_neg hbig]
    rw [runB (runP P _ w)]
    simp only [Int.toNat_natCast]
    rw [if_pos hfit]
    simp only [Bool.not_true, Bool.false_eq_true, if_false]
    by_cases hz0 : n * size = 0
    · rw [if_pos hz0, runB (runP P _ w)]
      have hnw : nw = #[] := by rw [hc, hz0]; simp
      subst hnw
      cases base with
      | none => cases hst; rfl
      | some b => simp only at hst ⊢; rw [runB hst]; rfl
    · have hzz : (do pure (Builtin.zeroCells (← zeroValue e).cells n) : Sem (Array Value)).run P w = .ok nw w := by
        show (zeroValue e >>= fun z => (pure (Builtin.zeroCells z.cells n) : Sem (Array Value))).run P w = _
        rw [runB (hz w), zeroCells_eq _ _ _ hsz, ← hc]
        rfl
      rw [if_neg hz0, runB hzz]
      cases base with
      | none => cases hst; rfl
      | some b => simp only at hst ⊢; rw [runB hst]; rfl

theorem run_append_grows {st xt : TypeId} {ts : Array TypeId} (h0 : ts[0]? = some st) (h1 : ts[1]? = some xt) {e : TypeId} (hu : P.underlying st = some (.slice e)) {size : Nat} (hn : sizeP P e = some size) {i : TypeInfo} (hi : P.info? e = some i) (hb : i.bytes ≤ 4096)
    {base : Option Addr} {sLen sCap n : Nat} {x : Value} {nw old : Array Value} (hs : ∀ d, Src P { w with drawn := d } e size xt x n nw) (hfit : sCap < sLen + n) (hmost : sLen + n ≤ most)
    (hold : ∀ d, (Builtin.firstCells size sLen (.slice base sLen sCap)).run P { w with drawn := d } = .ok old { w with drawn := d })
    {zv : Value} (hz : ∀ w, (zeroValue e).run P w = .ok zv w) (r : TypeId) :
    ∃ newCap d rest, sLen + n ≤ newCap ∧ rest = Builtin.zeroCells zv.cells (newCap - (sLen + n)) ∧
    (Builtin.append_ ts r #[.slice base sLen sCap, x]).run P w = .ok (.slice (some ⟨w.heap.size, 0, none⟩) (sLen + n) newCap) (pushed { w with drawn := d } (.cells (old ++ nw ++ rest) e)) := by
  let q : Question := .appendCap (sLen + n) sCap e
  have hcut : sLen + n ≤ q.cut (w.tape w.drawn q) := by
    show sLen + n ≤ (sLen + n) + _
    omega
  refine ⟨q.cut (w.tape w.drawn q), w.drawn + 1, _, hcut, rfl, ?_⟩
  have hsw : Src P w e size xt x n nw := hs w.drawn
  have hs' := hs (w.drawn + 1)
  have hold' := hold (w.drawn + 1)
  unfold Builtin.append_
  simp only [h0, h1, List.getElem?_toArray, List.getElem?_cons_zero, List.getElem?_cons_succ]
  rw [runB (run_underlying hu w)]
  simp only
  rw [runB (run_sizeOf hn w)]
  have hnb : ¬ (Builtin.nextslicecap (sLen + n) sCap * i.bytes > 2 ^ 48) := by
    have h1 := nextcap_le hfit
    have h2 : Builtin.nextslicecap (sLen + n) sCap * i.bytes ≤ (2 * 17179869184 + 1000) * 4096 := Nat.mul_le_mul (by unfold most at hmost; omega) hb
    omega
  have hmax : ¬ ((sLen + n : Nat) : Int) > IntKind.i64.max := by
    unfold most at hmost
    have : IntKind.i64.max = 9223372036854775807 := by decide
    rw [this]
    omega
  cases hsw with
  | cells d hud hd hlen hc =>
    have hc' : (Builtin.firstCells size n x).run P { w with drawn := w.drawn + 1 } = .ok nw { w with drawn := w.drawn + 1 } := by
      cases hs' with
      | cells _ _ _ _ hc' => exact hc'
      | zeros k hu2 => rw [hud] at hu2; rcases hd with ⟨e', rfl⟩ | rfl <;> cases hu2
    rw [runB (run_underlying hud w)]
    rcases hd with ⟨e', rfl⟩ | rfl
    all_goals
      simp only
      rw [runB (runP P _ w)]
      simp only [Bool.false_eq_true, if_false, Bool.not_false, if_true]
      rw [runB hlen, if_neg (by omega)]
      rw [runB (run_typeInfo hi w), if_neg (by intro h; exact hmax h.1)]
      rw [runB (run_typeInfo hi w), if_neg hnb]
      rw [runB (run_choose rfl w)]
      rw [runB (run_typeInfo hi _), runB (run_askRoom _ _), runB hold', runB hc', runB (hz _), runB run_newRow]
      rfl
  | zeros k hud k' hx hnm zv' hz' hsz hc =>
    subst hx
    rw [runB (run_underlying hud w)]
    simp only
    rw [runB (runP P _ w)]
    have ai : ∀ (k : IntKind) (j : Int), (Go.asInt (.int k j)).run P w = .ok j w := fun _ _ => rfl
    simp only [if_true]
    rw [runB (ai _ _)]
    simp only [wrap64_nat hnm]
    rw [if_neg (by omega)]
    rw [runB (run_typeInfo hi w)]
    have hbig : ¬ ((n : Int) * (i.bytes : Int) > 2 ^ 48) := by
      have h1 : n * i.bytes ≤ 17179869184 * 4096 := Nat.mul_le_mul hnm hb
      have h2 : ((n * i.bytes : Nat) : Int) ≤ 281474976710656 := by omega
      rw [Int.natCast_mul] at h2
      omega
    rw [if_neg hbig]
    rw [runB (runP P _ w)]
    simp only [Int.toNat_natCast]
    rw [if_neg (by omega)]
    rw [runB (run_typeInfo hi w), if_neg (by intro h; exact hmax h.1)]
    rw [runB (run_typeInfo hi w), if_neg hnb]
    rw [runB (run_choose rfl w)]
    rw [runB (run_typeInfo hi _), runB (run_askRoom _ _), runB hold']
    simp only [Bool.not_true, Bool.false_eq_true, if_false]
    by_cases hz0 : n * size = 0
    · rw [if_pos hz0, runB (runP P _ _)]
      have hnw : nw = #[] := by rw [hc, hz0]; simp
      subst hnw
      rw [runB (hz _), runB run_newRow]
      rfl
    · have hzz : ∀ w : World, (do pure (Builtin.zeroCells (← zeroValue e).cells n) : Sem (Array Value)).run P w = .ok nw w := by
        intro w
        show (zeroValue e >>= fun z => (pure (Builtin.zeroCells z.cells n) : Sem (Array Value))).run P w = _
        rw [runB (hz' w), zeroCells_eq _ _ _ hsz, ← hc]
        rfl
      rw [if_neg hz0, runB (hzz _)]
      rw [runB (hz _), runB run_newRow]
      rfl

theorem zeroCells_all {t : TypeId} {z : AV} (h : zeroCellsP P t = some z) : ∃ u n, (∀ w, (zeroValue t).run P w = .ok u w) ∧ (∀ ρ, RX ρ z u.cells.toList) ∧ sizeP P t = some n ∧ z.len = n ∧ z.isList = true ∧ u.cells.size = n := by
  obtain ⟨u, n, h1, h2, h3, h4, h5, h6⟩ := zeroCells_run h (default : World)
  refine ⟨u, n, ?_, h2, h3, h4, h5, h6⟩
  intro w
  obtain ⟨i, hi⟩ : ∃ i, P.info? t = some i := by
    unfold sizeP at h3
    simp only [Option.map_eq_some_iff] at h3
    obtain ⟨i, hi, _⟩ := h3
    exact ⟨i, hi⟩
  unfold zeroValue at h1 ⊢
  rw [runB (run_typeInfo hi _)] at h1 ⊢
  cases hv : i.zero with
  | none => rw [hv] at h1; cases h1
  | some u' => rw [hv] at h1; cases h1; rfl

/-- An object that is given up. -/
theorem HRel.kill {ng : Nat} (h : HRel P ng ρ H w) (p : Pos) : HRel P ng ρ (H.put p .dead) w := by
  have hget : ∀ q, (H.put p .dead).get q = if q = p then some .dead else H.get q := fun q => by simp [Heap.put, Heap.get, Tr.get_set]
  have hlive : ∀ q, (H.put p .dead).live q = true → H.live q = true ∧ q ≠ p := by
    intro q hq
    obtain ⟨o', ho', hne⟩ := live_get hq
    rw [hget] at ho'
    split at ho'
    · cases ho'; exact absurd rfl hne
    · rename_i e; exact ⟨live_of_get ho' hne, e⟩
  refine ⟨?_, ?_, h.bound, h.fresh, h.globals, ?_, fun q o' hq => by rw [hget] at hq; split at hq; (cases hq; trivial); exact h.loops q o' hq⟩
  · intro q o' M hq hne hM
    rw [hget] at hq
    split at hq
    · cases hq; exact absurd rfl hne
    · exact h.objs q o' M hq hne hM
  · intro q r M N hq hr hM hN hb
    exact h.inj q r M N (hlive q hq).1 (hlive r hr).1 hM hN hb
  · intro q hq
    have := h.wf q hq
    cases hl : (H.put p .dead).live q with
    | false => rfl
    | true => rw [(hlive q hl).1] at this; cases this

theorem Step.kill (p : Pos) (hro : ∀ t, H.get p ≠ some (.ro t)) : Step ρ H w ρ (H.put p .dead) w where
  ext := Ext.refl ρ
  os := rfl
  tape := rfl
  output := rfl
  size := Nat.le_refl _
  frame := fun _ _ _ => rfl
  own := fun q M hl hM => .inr ⟨q, M, by
    obtain ⟨o', ho', hne⟩ := live_get hl
    have hget : (H.put p .dead).get q = if q = p then some .dead else H.get q := by simp [Heap.put, Heap.get, Tr.get_set]
    rw [hget] at ho'
    split at ho'
    · cases ho'; exact absurd rfl hne
    · exact live_of_get ho' hne, hM, rfl⟩
  next := Nat.le_refl _
  new := fun q M h1 h2 => by rw [h1] at h2; cases h2
  old := fun q hq hl => by
    by_cases e : q = p
    · subst e; unfold Heap.live; simp [Heap.put, Heap.get, Tr.get_set]
    · rw [live_congr (H := H) (by simp [Heap.put, Heap.get, Tr.get_set, e])]; exact hl
  keep := fun q hq t hg => by
    have e : q ≠ p := fun e => by subst e; exact hro t hg
    exact ⟨by rw [← hg]; simp [Heap.put, Heap.get, Tr.get_set, e], fun _ _ _ => rfl⟩

theorem kill_not_live (p : Pos) : (H.put p .dead).live p = false := by
  unfold Heap.live
  have hget : (H.put p .dead).get p = some .dead := by simp [Heap.put, Heap.get, Tr.get_set]
  rw [hget]

/-- A new name for a block whose name was given up, and which was written. -/
theorem HRel.rename {ng : Nat} (h : HRel P ng ρ H w) {p : Pos} {o : AO} {L : Loc} (hp : H.get p = some o) (hd : o ≠ .dead) (hro : ∀ t, o ≠ .ro t) (hL : ρ p = some L) {ao : AO} {base : Nat} {w' : World}
    (hs : w'.heap.size = w.heap.size) (hold : ∀ b, b ≠ L.b → w'.heap[b]? = w.heap[b]?) (w1 : w'.os = w.os) (w2 : w'.tape = w.tape) (w3 : w'.output = w.output)
    (ho : ∀ ρ', Ext ρ ρ' → HO ρ' w' ⟨L.b, base, L.sz⟩ ao) (hlo : ao.loopOk P ng := by trivial) :
    HRel P ng (ρ.put H.next ⟨L.b, base, L.sz⟩) ((H.put p .dead).new ao).2 w' ∧ Step ρ H w (ρ.put H.next ⟨L.b, base, L.sz⟩) ((H.put p .dead).new ao).2 w' := by
  have hn : ρ H.next = none := h.fresh _ (Nat.le_refl _)
  have hext := Ren.put_ext (L := ⟨L.b, base, L.sz⟩) hn
  have hpn : p ≠ H.next := fun e => by rw [e, hn] at hL; cases hL
  have hget : ∀ q, ((H.put p .dead).new ao).2.get q = if q = H.next then some ao else if q = p then some .dead else H.get q := fun q => by
    show ((H.t.set p .dead).set H.next ao).get q = _
    rw [Tr.get_set, Tr.get_set]
    rfl
  have plive := live_of_get hp hd
  have other : ∀ q M, H.live q = true → q ≠ p → ρ q = some M → M.b ≠ L.b := fun q M hq hne hM e => hne (h.inj q p M L hq plive hM hL e)
  have key : ∀ q M, ((H.put p .dead).new ao).2.live q = true → ρ.put H.next ⟨L.b, base, L.sz⟩ q = some M → (q = H.next ∧ M = ⟨L.b, base, L.sz⟩) ∨ (q ≠ H.next ∧ q ≠ p ∧ H.live q = true ∧ ρ q = some M) := by
    intro q M hq hM
    obtain ⟨o', ho', hne⟩ := live_get hq
    rw [hget] at ho'
    by_cases e : q = H.next
    · left; simp [Ren.put, e] at hM; exact ⟨e, hM.symm⟩
    · rw [if_neg e] at ho'
      by_cases e2 : q = p
      · rw [if_pos e2] at ho'; cases ho'; exact absurd rfl hne
      · rw [if_neg e2] at ho'
        right
        simp [Ren.put, e] at hM
        exact ⟨e, e2, live_of_get ho' hne, hM⟩
  constructor
  · refine ⟨?_, ?_, ?_, ?_, ?_, ?_, fun q o' hq => by rw [hget] at hq; split at hq; (cases hq; exact hlo); split at hq; (cases hq; trivial); exact h.loops q o' hq⟩
    · intro q o' M hq hne hM
      rw [hget] at hq
      split at hq
      · rename_i e; cases hq; simp [Ren.put, e] at hM; subst hM; exact ho _ hext
      · split at hq
        · cases hq; exact absurd rfl hne
        · rename_i e e2
          simp [Ren.put, e] at hM
          exact ((h.objs q o' M hq hne hM).mono hext).same (hold _ (other q M (live_of_get hq hne) e2 hM))
    · intro q r M N hq hr hM hN hb
      rcases key q M hq hM with ⟨e1, rfl⟩ | ⟨e1, f1, l1, r1⟩ <;> rcases key r N hr hN with ⟨e2, rfl⟩ | ⟨e2, f2, l2, r2⟩
      · rw [e1, e2]
      · exact absurd hb.symm (other r N l2 f2 r2)
      · exact absurd hb (other q M l1 f1 r1)
      · exact h.inj q r M N l1 l2 r1 r2 hb
    · intro q M hM
      rw [hs]
      unfold Ren.put at hM
      split at hM
      · cases hM; exact h.bound p L hL
      · exact h.bound q M hM
    · intro q hq
      have hq' : H.next.succ.num ≤ q.num := hq
      rw [Pos.num_succ] at hq'
      have : q ≠ H.next := fun e => by rw [e] at hq'; omega
      simp only [Ren.put, if_neg this]
      exact h.fresh q (by omega)
    · intro g hg
      obtain ⟨s, hs⟩ := h.globals g hg
      exact ⟨s, hext _ _ hs⟩
    · intro q hq
      have hq' : H.next.succ.num ≤ q.num := hq
      rw [Pos.num_succ] at hq'
      have e1 : q ≠ H.next := fun e => by rw [e] at hq'; omega
      by_cases e2 : q = p
      · unfold Heap.live; rw [hget, if_neg e1, if_pos e2]
      · rw [live_congr (H := H) (by rw [hget, if_neg e1, if_neg e2])]
        exact h.wf q (by omega)
  · refine ⟨hext, w1, w2, w3, by rw [hs]; exact Nat.le_refl _, ?_, ?_, ?_, ?_, ?_, ?_⟩
    · intro b _ hnb
      exact hold b fun e => hnb p L plive hL e.symm
    · intro q M hq hM
      right
      rcases key q M hq hM with ⟨_, rfl⟩ | ⟨_, _, l1, r1⟩
      · exact ⟨p, L, plive, hL, rfl⟩
      · exact ⟨q, M, l1, r1, rfl⟩
    · show H.next.num ≤ H.next.succ.num; rw [Pos.num_succ]; omega
    · intro q M h1 h2
      by_cases e : q = H.next
      · rw [e]; exact Nat.le_refl _
      · simp [Ren.put, e] at h2; rw [h1] at h2; cases h2
    · intro q hq hl
      have e1 : q ≠ H.next := fun e => by rw [e] at hq; omega
      by_cases e2 : q = p
      · unfold Heap.live; rw [hget, if_neg e1, if_pos e2]
      · rw [live_congr (H := H) (by rw [hget, if_neg e1, if_neg e2])]
        exact hl
    · intro q hq t hg
      have e1 : q ≠ H.next := fun e => by rw [e] at hq; omega
      have e2 : q ≠ p := fun e => by subst e; rw [hg] at hp; cases hp; exact hro t rfl
      exact ⟨by rw [hget, if_neg e1, if_neg e2]; exact hg, fun K hK _ => hold _ (other q K (live_of_get hg (by simp)) e2 hK)⟩

theorem drewSrc {e : TypeId} {size : Nat} {xt : TypeId} {x : Value} {n : Nat} {ng : Nat} (hH : HRel P ng ρ H w) {ux cs : AV} (hux : RX ρ ux [x]) (hl : lenOf ux = some n) (hc : srcCells H size n ux = some cs) {d : TypeDesc} (hu : P.underlying xt = some d) (hd : (∃ e', d = .slice e') ∨ d = .string) :
    ∃ xs : List Value, (∀ k, Src P { w with drawn := k } e size xt x n xs.toArray) ∧ RX ρ cs xs ∧ cs.isList = true ∧ cs.len = n * size := by
  have key : ∃ xs : List Value, (∀ w' : World, w'.heap = w.heap → (Builtin.firstCells size n x).run P w' = .ok xs.toArray w') ∧ RX ρ cs xs ∧ cs.isList = true ∧ cs.len = n * size := by
    unfold srcCells at hc
    split at hc
    · rename_i l m
      split at hc
      · rename_i hle
        cases hc
        obtain ⟨b1, b2, b3⟩ := bytesFrom_rel ρ m n 0
        have h1 := hle.2
        have hle := hle.1
        subst h1
        obtain ⟨_, rfl⟩ := hux.str_eq
        simp [lenOf] at hl
        subst hl
        refine ⟨_, fun w' _ => ?_, b1, b2, by rw [b3, Nat.mul_one]⟩
        show Result.ok (((textOf l m).extract 0 l).data.map fun b => Value.int .u8 (b.toNat : Int)) w' = _
        congr 1
        rw [textOf_extract _ _ _ _ (by omega) (by omega)]
        simp only [Nat.pow_zero, Nat.div_one, Nat.sub_zero]
        obtain ⟨hlt, _⟩ := hux
        rw [Nat.mod_eq_of_lt hlt, textOf_data]
        simp
      · cases hc
    · obtain ⟨xs, r1, r2, r3, r4, _⟩ := firstCells_rel (P := P) hH hux hc ⟨n, hl, Nat.le_refl _⟩
      exact ⟨xs, r1, r2, r3, r4⟩
  obtain ⟨xs, r1, r2, r3, r4⟩ := key
  exact ⟨xs, fun k => .cells d hu hd (lenOf_rel hux hl) (r1 _ rfl), r2, r3, r4⟩

theorem appendC_ok (E : Env P C ρ ns ls fr a H w) {st xt : TypeId} {ts : Array TypeId} (h0 : ts[0]? = some st) (h1 : ts[1]? = some xt) {e : TypeId} (hu : P.underlying st = some (.slice e)) {size : Nat} (hn : sizeP P e = some size) (hn0 : size ≠ 0) {z : AV} (hz : zeroCellsP P e = some z) (hfew : fewP P e = true)
    {u new : AV} {s x : Value} {n : Nat} {xs : List Value} (hs : RX ρ u [s]) (hsrc : ∀ d, Src P { w with drawn := d } e size xt x n xs.toArray) (hxs : RX ρ new xs) (hl : new.isList = true) (hlen : new.len = n * size) (h : appendC H size n new u = some (v, H')) (r : TypeId) :
    ∃ ρ' w' y, (Builtin.append_ ts r #[s, x]).run P w = .ok y w' ∧ RX ρ' v [y] ∧ HRel P C.ng ρ' H' w' ∧ Step ρ H w ρ' H' w' := by
  obtain ⟨i, hi, hb⟩ := few hfew
  obtain ⟨zv, m, hz1, _, hz3, _, _, hz6⟩ := zeroCells_all hz
  rw [hn] at hz3
  cases hz3
  have hxl : xs.length = n * size := by rw [← hlen, hxs.len hl]
  have hpos : 0 < size := by omega
  -- it stays where it is
  have fits : ∀ {base : Option Addr} {sLen sCap : Nat} {w' : World}, s = .slice base sLen sCap → sLen + n ≤ sCap → (match base with | some b => storeCells (b.add (sLen * size)) xs.toArray.toList | none => pure () : Sem Unit).run P w = .ok () w' →
      (Builtin.append_ ts r #[s, x]).run P w = .ok (.slice base (sLen + n) sCap) w' := by
    intro base sLen sCap w' hse hfit hst
    rw [hse]
    exact run_append_fits h0 h1 hu hn hi hb (hsrc w.drawn) hfit hst r
  -- it goes elsewhere
  have grows : ∀ {base : Option Addr} {sLen sCap : Nat} {old : AV} {os : List Value} {H0 : Heap} {q : Pos} {H1 : Heap}, s = .slice base sLen sCap → sCap < sLen + n → sLen + n ≤ most →
      (∀ w' : World, w'.heap = w.heap → (Builtin.firstCells size sLen (.slice base sLen sCap)).run P w' = .ok os.toArray w') → RX ρ old os → old.isList = true → old.len = sLen * size →
      HRel P C.ng ρ H0 w → Step ρ H w ρ H0 w → H0.next = H.next → H0.row (old.app new) true = some (q, H1) →
      ∃ ρ' w' y, (Builtin.append_ ts r #[s, x]).run P w = .ok y w' ∧ RX ρ' (.oslice q 0 (sLen + n) size) [y] ∧ HRel P C.ng ρ' H1 w' ∧ Step ρ H w ρ' H1 w' := by
    intro base sLen sCap old os H0 q H1 hse hfit hmost hold hor hol hoc hH0 hS0 hnx hrow
    obtain ⟨newCap, d, rest, c1, c2, c3⟩ := run_append_grows h0 h1 hu hn hi hb hsrc hfit hmost (fun d => hold _ rfl) hz1 r
    have hosl : os.length = sLen * size := by rw [← hoc, hor.len hol]
    let c : Array Value := os.toArray ++ xs.toArray ++ rest
    have hrs : rest.size = (newCap - (sLen + n)) * size := by
      rw [c2, zeroCells_eq _ _ _ hz6]; simp
    have hcs : c.size = newCap * size := by
      show (os.toArray ++ xs.toArray ++ rest).size = _
      simp only [Array.size_append, List.size_toArray, hosl, hxl, hrs]
      rw [← Nat.add_mul, ← Nat.add_mul]
      congr 1
      omega
    let w1 : World := { w with drawn := d }
    have hH1 : HRel P C.ng ρ H0 w1 := hH0.drew rfl
    obtain ⟨ep, q1, q2, _, _⟩ := hH1.newRow (op := true) (c := c) (elem := e) (fr := (0, 0)) (w' := pushed w1 (.cells c e)) hrow rfl rfl rfl rfl (hor.app hol hxs)
      (fun j hj => by
        show (os.toArray ++ xs.toArray ++ rest)[j]? = (os ++ xs)[j]?
        rw [Array.getElem?_append_left (by simpa using hj)]
        simp)
      (by rw [hcs, List.length_append, hosl, hxl, ← Nat.add_mul]; exact Nat.mul_le_mul_right _ c1) (by simp) (fun i _ => by simp)
    refine ⟨_, _, _, by rw [hse]; exact c3, ?_, q1, (hS0.trans (Step.drew (w' := w1) rfl rfl rfl rfl)).trans q2⟩
    refine ⟨⟨w.heap.size, 0, c.size⟩, by rw [ep]; simp [Ren.put, w1], .inl ⟨newCap, ?_, c1, rfl⟩⟩
    show 0 + 0 + newCap * size = c.size
    rw [hcs]
    omega
  have nil0 : ∀ {k : Nat}, new.len = 0 → (storeCells ⟨0, 0, none⟩ xs k).run P w = .ok () w := fun h0 => by
    have : xs = [] := by apply List.eq_nil_of_length_eq_zero; rw [hxl, ← hlen, h0]
    rw [this]; rfl
  have xs0 : new.len = 0 → xs = [] := fun h0 => by apply List.eq_nil_of_length_eq_zero; rw [hxl, ← hlen, h0]
  unfold appendC at h
  split at h
  · -- nil
    have hse : s = .slice none 0 0 := by simpa [RX] using hs
    split at h
    · rename_i hn0'
      cases h
      subst hn0'
      exact ⟨ρ, w, _, fits hse (Nat.le_refl _) rfl, rfl, E.H, Step.refl _ _ _⟩
    · split at h
      · rename_i hnn hmo
        obtain ⟨⟨q, H1⟩, hrow, e1⟩ := bindO h
        cases e1
        have := grows (old := .nil) (os := []) (H0 := H) hse (by omega) (by omega) (fun _ _ => rfl) rfl rfl (by simp [AV.len]) E.H (Step.refl _ _ _) rfl hrow
        rw [Nat.zero_add] at this
        exact this
      · cases h
  · rename_i p off len cap
    obtain ⟨L, hL, hlc, hse⟩ := hs.slice_eq
    split at h
    · rename_i hfit
      split at h
      · rename_i hz0
        cases h
        refine ⟨ρ, w, _, fits hse hfit ?_, ⟨L, hL, hfit, rfl⟩, E.H, Step.refl _ _ _⟩
        simp only
        rw [xs0 hz0]
        rfl
      · simp only [Option.map_eq_some_iff] at h
        obtain ⟨H1, hst, e1⟩ := h
        cases e1
        obtain ⟨w', r1, r2, r3⟩ := E.H.store (P := P) hst hL hxs
        refine ⟨ρ, w', _, fits hse hfit ?_, ⟨L, hL, hfit, rfl⟩, r2, r3⟩
        simp only [addr_add]
        rw [Nat.add_assoc]
        exact r1
    · rename_i hfit
      split at h
      · rename_i hmo
        obtain ⟨old, hold, g1⟩ := bindO h
        obtain ⟨⟨q, H1⟩, hrow, e1⟩ := bindO g1
        cases e1
        obtain ⟨os, o1, o2, o3, o4, _⟩ := firstCells_rel (P := P) E.H hs hold ⟨len, rfl, Nat.le_refl _⟩
        rw [hse] at o1
        exact grows hse (by omega) hmo o1 o2 o3 o4 E.H (Step.refl _ _ _) rfl hrow
      · cases h
  · rename_i p off len s'
    split at h
    · cases h
    · rename_i hss
      simp only [ne_eq, Decidable.not_not] at hss
      subst hss
      split at h
      · rename_i t m' hp
        have hs2 := hs
        obtain ⟨L, hL, hse⟩ := hs2
        obtain ⟨c, e', fr', k1, k2, k3, k4, k5, k6⟩ := E.H.row hp hL
        split at h
        · rename_i hin
          -- within what is known
          have hfit : ∃ ad cap, s = .slice (some ad) len cap ∧ len + n ≤ cap ∧ RX ρ (.oslice p off (len + n) s') [.slice (some ad) (len + n) cap] ∧ (new.len ≠ 0 → ad = ⟨L.b, L.base + off, none⟩) := by
            rcases hse with ⟨cap, hc1, hc2, hse⟩ | ⟨hl0, hc1, o, hse⟩
            · have hle : len + n ≤ cap := by
                have : (len + n) * s' ≤ cap * s' := by omega
                exact Nat.le_of_mul_le_mul_right this hpos
              exact ⟨_, cap, by simpa using hse, hle, ⟨L, hL, .inl ⟨cap, hc1, hle, rfl⟩⟩, fun _ => rfl⟩
            · subst hl0
              have hn0' : n = 0 := by
                have : (0 + n) * s' = 0 := by omega
                rcases Nat.mul_eq_zero.1 this with h | h <;> omega
              subst hn0'
              exact ⟨_, 0, by simpa using hse, Nat.le_refl _, ⟨L, hL, .inr ⟨rfl, hc1, o, rfl⟩⟩, fun hne => absurd (by rw [hlen]; simp) hne⟩
          obtain ⟨ad, cap, hse', hle, hrx, had⟩ := hfit
          split at h
          · rename_i hz0
            cases h
            refine ⟨ρ, w, _, fits hse' hle ?_, hrx, E.H, Step.refl _ _ _⟩
            simp only
            rw [xs0 hz0]
            rfl
          · rename_i hz0
            simp only [Option.map_eq_some_iff] at h
            obtain ⟨H1, hst, e1⟩ := h
            cases e1
            have had' := had hz0
            subst had'
            obtain ⟨w', r1, r2, r3⟩ := E.H.store (P := P) hst hL hxs
            refine ⟨ρ, w', _, fits hse' hle ?_, hrx, r2, r3⟩
            simp only [addr_add]
            rw [Nat.add_assoc]
            exact r1
        · rename_i hout
          split at h
          · rename_i hmo
            obtain ⟨old, hold, g1⟩ := bindO h
            obtain ⟨⟨q, H1⟩, hrow, e1⟩ := bindO g1
            cases e1
            have hold' : firstCells H s' len (.oslice p off len s') = some old := by
              unfold firstCells
              simp only
              split
              · rename_i h00; rw [h00] at hold; simpa [cellsFrom] using hold
              · unfold Heap.cellsAt; rw [hp]; exact hold
            obtain ⟨os, o1, o2, o3, o4, o5⟩ := firstCells_rel (P := P) E.H hs hold' ⟨len, rfl, Nat.le_refl _⟩
            have hosl : os.length = len * s' := by rw [← o4, o2.len o3]
            have go : ∀ {ad : Addr} {cap : Nat}, s = .slice (some ad) len cap → cap < len + n → ∃ ρ' w' y, (Builtin.append_ ts r #[s, x]).run P w = .ok y w' ∧ RX ρ' (.oslice q 0 (len + n) s') [y] ∧ HRel P C.ng ρ' H' w' ∧ Step ρ H w ρ' H' w' := by
              intro ad cap hse' hlt
              rw [hse'] at o1
              exact grows hse' hlt hmo.1 o1 o2 o3 o4 (E.H.kill p) (Step.kill p (by rw [hp]; simp)) rfl hrow
            rcases hse with ⟨cap, hc1, hc2, hse⟩ | ⟨hl0, hc1, o, hse⟩
            · have hse' : s = .slice (some ⟨L.b, L.base + off, none⟩) len cap := by simpa using hse
              by_cases hle : len + n ≤ cap
              · -- it stays in the block, which gets a new name
                have hcell : ∀ y ∈ xs, (∀ cs, y ≠ .agg cs) ∧ (∀ cs, y ≠ .tuple cs) := by
                  unfold Heap.row treeOf at hrow
                  simp only [Option.map_eq_some_iff] at hrow
                  obtain ⟨t', ht', _⟩ := hrow
                  obtain ⟨_, hg1, _⟩ := putCells_get _ _ _ _ ht'
                  have all := cells_values (o2.app o3 hxs) (AV.isList_app o3 hl) (fun j u hu => (hg1 j u hu).2)
                  intro y hy
                  exact all y (List.mem_append_right _ hy)
                have hmul : (len + n) * s' ≤ cap * s' := Nat.mul_le_mul_right _ hle
                rw [Nat.add_mul] at hmul
                obtain ⟨c', w', r1, r2, r3, r4, r5, r6, r7, r8, r9, r10⟩ := run_storeCells (P := P) (L.base + off + len * s') xs 0 c w k1 (by rw [hxl, k2]; omega) k6 hcell
                have hrun := fits hse' hle (w' := w') (by simp only [addr_add]; exact r1)
                unfold Heap.row treeOf at hrow
                simp only [Option.map_eq_some_iff] at hrow
                obtain ⟨t', ht', e1⟩ := hrow
                obtain ⟨hl2, hg1, hg2⟩ := putCells_get _ _ _ _ ht'
                have hlen2 : (old.app new).len = len * s' + n * s' := by rw [AV.len_app o3, o4, hlen]
                have eq1 : q = H.next := by rw [show q = ((H.put p .dead).new (.cells t' (old.app new).len true)).1 by rw [e1]]; rfl
                have eq2 : H' = ((H.put p .dead).new (.cells t' (old.app new).len true)).2 := by rw [e1]
                have hren := E.H.rename hp (by simp) (by simp) hL (ao := .cells t' (old.app new).len true) (base := L.base + off) (w' := w') r4 r5 r6 r7 r8 (by
                  intro ρ' hext
                  refine ⟨c', e', fr', r2, by rw [r3]; exact k2, by show L.base + off + (old.app new).len ≤ c'.size; rw [r3, k2, hlen2]; omega, (by intro h; cases h), ?_, by rw [r3]; exact k6⟩
                  intro j u hu
                  by_cases hj : j < (old.app new).len
                  · obtain ⟨u', hu'⟩ := nth_of_lt (j := j) hl2 hj
                    obtain ⟨g1, g2⟩ := hg1 _ _ hu'
                    rw [Nat.zero_add] at g1
                    rw [g1] at hu; cases hu
                    obtain ⟨y, hy, hR⟩ := (o2.app o3 hxs).nth hu'
                    refine ⟨hj, y, ?_, hR.mono hext, g2⟩
                    show c'[L.base + off + j]? = some y
                    by_cases hjo : j < len * s'
                    · rw [r9 _ (by omega)]
                      rw [List.getElem?_append_left (by omega)] at hy
                      -- the old cells are the block's
                      obtain ⟨xs', x1, x2, _, _, x5, _, _⟩ := cellsFrom_rel k5 _ _ _ hold
                      have := o1 w rfl
                      rw [hse'] at this
                      have hld := run_loadCellsFrom (P := P) k1 (L.base + off) (len * s') 0 #[] xs' x1 (fun j hj => by simpa using x5 j hj)
                      have hld2 : (loadCells ⟨L.b, L.base + off, none⟩ (len * s')).run P w = .ok os.toArray w := this
                      unfold loadCells at hld2
                      rw [hld] at hld2
                      have : xs' = os := by simpa using hld2
                      subst this
                      rw [x5 j hjo, hy]
                    · rw [List.getElem?_append_right (by omega), hosl] at hy
                      have := r10 (j - len * s') (by omega)
                      rw [← hy, ← this]
                      congr 1
                      omega
                  · rw [hg2 j (by omega), Tr.get_leaf] at hu
                    cases hu)
                rw [eq1, eq2]
                refine ⟨_, w', _, hrun, ⟨⟨L.b, L.base + off, L.sz⟩, by simp [Ren.put], .inl ⟨cap, ?_, hle, rfl⟩⟩, hren.1, hren.2⟩
                show L.base + off + 0 + cap * s' = L.sz
                omega
              · exact go hse' (by omega)
            · have hse' : s = .slice (some ⟨L.b, o, none⟩) len 0 := by rw [hl0]; simpa using hse
              refine go hse' ?_
              -- something is appended: else it were within what is known
              rcases Nat.eq_zero_or_pos (len + n) with h00 | h00
              · exfalso
                apply hout
                rw [h00]
                have := hmo.2
                rw [hl0] at this
                omega
              · exact h00
          · cases h
      · cases h
  · cases h

end
end Go.Dx
