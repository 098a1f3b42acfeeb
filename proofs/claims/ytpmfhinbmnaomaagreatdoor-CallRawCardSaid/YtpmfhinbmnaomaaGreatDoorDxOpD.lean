/-
  Operations, third part: what is built; cells; numbers, texts, comparing.
-/
import Derived.Test.YtpmfhinbmnaomaaGreatDoorDxOpB
set_option linter.unusedSimpArgs false
set_option linter.unusedVariables false
set_option linter.unusedSectionVars false
namespace Go.Dx

section
variable {P : Program} {C : Ctx} {ρ : Ren} {ns : List (Option Tmp)} {ls : AV} {fr : Tr AV} {a : Act} {H H' : Heap} {w : World} {v : AV} {ci : CI} {o : Oper}

theorem pairs_pv (ps : Array (Nat × Operand)) (f : Operand → Value) : (ps.map fun (i, x) => (i, f x)) = ps.map (pv f) := rfl
theorem toList_pv (ps : Array (Nat × Operand)) (f : Operand → Value) : (ps.map (pv f)).toList = ps.toList.map (pv f) := Array.toList_map
theorem run_sureAddr (x : Addr) (w : World) : (Instr.sureAddr (.pointer (some x))).run P w = .ok x w := rfl

theorem ok_build (E : Env P C ρ ns ls fr a H w) {t : TypeId} {ps : Array (Nat × Operand)} (hci : opP P C ns (.build t ps) = some ci) (hev : ci.ev ls fr H = some (v, H')) :
    OpOk P C.ng ρ H w (do pure (.value (← Instr.build t (ps.map fun (i, x) => (i, a.eval x))))) v H' := by
  simp only [opP] at hci
  split at hci
  · rename_i z fs hz hu
    split at hci
    · rename_i hall
      simp only [Option.map_eq_some_iff] at hci
      obtain ⟨qs, hqs, rfl⟩ := hci
      obtain ⟨r, hr, e⟩ := bindO hev
      cases e
      obtain ⟨u, n, h1, h2, h3, h4, h5, h6⟩ := zeroCells_run hz w
      obtain ⟨cs', q1, q2, q3, _⟩ := fill_rel E.F E.L E.H.globals ps.toList qs z r u.cells hqs hr (h2 ρ) h5
      refine .pureVal E.H (x := .agg cs') ?_ ⟨cs', rfl, q3, q2⟩
      rw [pairs_pv]
      unfold Instr.build
      rw [runB h1, runB (run_underlying hu w)]
      simp only
      have hpl := run_places (P := P) fs.toList (fun f hf => by have := List.all_eq_true.1 hall f hf; simpa using this) w
      have hpa : (fs.mapM (fun f => do pure (f.offset, ← sizeOf f.type)) : Sem (Array (Nat × Nat))).run P w = .ok (fs.toList.map fun f => (f.offset, (sizeP P f.type).getD 0)).toArray w := by
        rw [Array.mapM_eq_mapM_toList]
        show ((fs.toList.mapM (fun f => do pure (f.offset, ← sizeOf f.type)) : Sem (List (Nat × Nat))) >>= fun l => (pure l.toArray : Sem _)).run P w = _
        rw [runB hpl]
        rfl
      rw [runB hpa]
      have hfill : Instr.fill (fun i => (fs.toList.map fun f => (f.offset, (sizeP P f.type).getD 0)).toArray[i]?) u.cells (ps.map (pv a.eval)).toList = some cs' := by
        rw [toList_pv, ← q1]
        apply fill_congr
        intro x hx
        rw [List.mem_map] at hx
        obtain ⟨y, hy, rfl⟩ := hx
        obtain ⟨⟨off, n⟩, hr⟩ := partsP_places ps.toList qs hqs y hy
        obtain ⟨f, hf, ho, hs⟩ := fieldsAt_eq hr
        show _ = fieldsAt P fs.toList y.1
        rw [hr]
        simp only [List.getElem?_toArray, List.getElem?_map]
        show Option.map _ fs.toList[y.1]? = _
        simp only [hf, Option.map_some, ho, hs, Option.getD_some]
      simp only [hfill]
      rfl
    · cases hci
  · rename_i z n e hz hu
    split at hci
    · rename_i m hm
      simp only [Option.map_eq_some_iff] at hci
      obtain ⟨qs, hqs, rfl⟩ := hci
      obtain ⟨r, hr, e⟩ := bindO hev
      cases e
      obtain ⟨u, n, h1, h2, h3, h4, h5, h6⟩ := zeroCells_run hz w
      obtain ⟨cs', q1, q2, q3, _⟩ := fill_rel E.F E.L E.H.globals ps.toList qs z r u.cells hqs hr (h2 ρ) h5
      refine .pureVal E.H (x := .agg cs') ?_ ⟨cs', rfl, q3, q2⟩
      rw [pairs_pv]
      unfold Instr.build
      rw [runB h1, runB (run_underlying hu w)]
      simp only
      rw [runB (run_sizeOf hm w), toList_pv, q1]
      rfl
    · cases hci
  · cases hci

/-! Rows of zeros. -/
theorem repl_len (z : AV) (hz : z.isList = true) : ∀ n, (repl z n).len = n * z.len ∧ (repl z n).isList = true := by
  intro n
  induction n with
  | zero => simp [repl, AV.len, AV.isList]
  | succ n ih => exact ⟨by simp only [repl]; rw [AV.len_app hz, ih.1, Nat.succ_mul, Nat.add_comm], AV.isList_app hz ih.2⟩

theorem repl_rel {z : AV} {xs : List Value} (hr : RX ρ z xs) (hz : z.isList = true) : ∀ n, RX ρ (repl z n) (List.replicate n xs).flatten := by
  intro n
  induction n with
  | zero => rfl
  | succ n ih => simp only [repl, List.replicate_succ, List.flatten_cons]; exact hr.app hz ih

theorem flatten_get {xs : List Value} : ∀ (n j : Nat), 0 < xs.length → j < n * xs.length → (List.replicate n xs).flatten[j]? = xs[j % xs.length]? := by
  intro n
  induction n with
  | zero => intro j _ h; omega
  | succ n ih =>
    intro j h0 h
    rw [List.replicate_succ, List.flatten_cons]
    by_cases hj : j < xs.length
    · rw [List.getElem?_append_left hj, Nat.mod_eq_of_lt hj]
    · rw [List.getElem?_append_right (by omega), ih _ h0 (by rw [Nat.succ_mul] at h; omega)]
      congr 1
      rw [Nat.mod_eq_sub_mod (a := j) (by omega)]

theorem zeros_list {zs : Array Value} {n : Nat} (h0 : 0 < zs.size) : ((Array.range (n * zs.size)).map (zs[· % zs.size]!)).toList = (List.replicate n zs.toList).flatten := by
  apply List.ext_getElem?
  intro j
  by_cases hj : j < n * zs.size
  · rw [flatten_get n j (by simpa using h0) (by simpa using hj)]
    simp only [Array.toList_map, List.getElem?_map, Array.toList_range, List.getElem?_range hj, Option.map_some, Array.length_toList, Array.getElem?_toList]
    have : j % zs.size < zs.size := Nat.mod_lt _ h0
    rw [getElem!_pos zs _ this, Array.getElem?_eq_getElem this]
  · rw [List.getElem?_eq_none (by simp; omega), List.getElem?_eq_none (by simp; omega)]

theorem ok_buildSlice (E : Env P C ρ ns ls fr a H w) {t : TypeId} {len : Nat} {ps : Array (Nat × Operand)} (hci : opP P C ns (.buildSlice t len ps) = some ci) (hev : ci.ev ls fr H = some (v, H')) :
    OpOk P C.ng ρ H w (do pure (.value (← Instr.buildSlice t len (ps.map fun (i, x) => (i, a.eval x))))) v H' := by
  simp only [opP] at hci
  split at hci
  · rename_i e hu
    split at hci
    · rename_i z n hz hn
      split at hci
      · cases hci
      · rename_i hc
        simp only [not_or, Nat.not_lt] at hc
        simp only [Option.map_eq_some_iff] at hci
        obtain ⟨qs, hqs, rfl⟩ := hci
        simp only [CI.ev] at hev
        obtain ⟨cs, hcs, hev⟩ := bindO hev
        split at hev
        · cases hev
        · rename_i hlen
          obtain ⟨⟨p, H1⟩, hp, e1⟩ := bindO hev
          cases e1
          obtain ⟨u, m, h1, h2, h3, h4, h5, h6⟩ := zeroCells_run hz w
          rw [hn] at h3; cases h3
          have hn0 : 0 < u.cells.size := by rw [h6]; omega
          have hzr : RX ρ (repl z len) ((Array.range (len * n)).map (u.cells[· % u.cells.size]!)).toList := by
            rw [← h6, zeros_list hn0]
            exact repl_rel (h2 ρ) h5 len
          obtain ⟨cs', q1, q2, q3, q4⟩ := fill_rel E.F E.L E.H.globals ps.toList qs (repl z len) cs _ hqs hcs hzr (repl_len z h5 len).2
          obtain ⟨ρ', w', r1, r2, r3, r4⟩ := newRow_ok (P := P) E.H hp e q2
          refine .ofVal ⟨ρ', w', .slice (some ⟨w.heap.size, 0, none⟩) len len, ?_, ⟨_, r2, Nat.le_refl _, rfl⟩, r3, r4⟩
          rw [pairs_pv]
          unfold Instr.buildSlice
          rw [runB (run_underlying hu w)]
          simp only
          rw [runB (run_sizeOf hn w)]
          rw [if_neg (by omega)]
          by_cases hl : len * n = 0
          · have hl0 : len = 0 := by
              rcases Nat.mul_eq_zero.1 hl with h | h
              · exact h
              · omega
            subst hl0
            rw [if_pos hl]
            have hz0 : ∀ zs : Array Value, (Array.range (0 * n)).map (zs[· % zs.size]!) = #[] := fun zs => by simp
            rw [hz0] at q1
            rw [runB (runP P _ w)]
            simp only [hz0, toList_pv, q1]
            rw [runB r1]
            rfl
          · rw [if_neg hl]
            rw [runB h1, runB (runP P _ w)]
            simp only [toList_pv, q1]
            rw [runB r1]
            rfl
    · cases hci
  · cases hci

/-! Cells. -/
theorem ok_load (E : Env P C ρ ns ls fr a H w) {t : TypeId} {x : Operand} (hci : opP P C ns (.load t x) = some ci) (hev : ci.ev ls fr H = some (v, H')) :
    OpOk P C.ng ρ H w (do pure (.value (← Instr.loadAt t (a.eval x)))) v H' := by
  simp only [opP] at hci
  split at hci
  · rename_i n y hagg hn hy
    cases hci
    obtain ⟨u, hu, hev⟩ := bindO hev
    split at hev
    · rename_i p off
      obtain ⟨cs, hcs, e⟩ := bindO hev
      cases e
      obtain ⟨L, hL, hx⟩ := (E.opd hy hu).ptr_eq
      obtain ⟨xs, r1, r2, r3, _, _⟩ := E.H.cells (P := P) hcs hL
      refine .pureVal E.H (x := .agg xs.toArray) ?_ ⟨xs.toArray, rfl, r3, by simpa using r2⟩
      rw [hx]
      unfold Instr.loadAt loadVar
      rw [runB (run_sureAddr _ w), runB (run_isAgg hagg w)]
      simp only [if_true]
      rw [runB (run_sizeOf hn w), runB (r1 w rfl)]
      rfl
    · cases hev
  · rename_i n y hagg hn hy
    cases hci
    obtain ⟨u, hu, hev⟩ := bindO hev
    split at hev
    · rename_i p off
      obtain ⟨c, hc, e⟩ := bindO hev
      cases e
      obtain ⟨L, hL, hx⟩ := (E.opd hy hu).ptr_eq
      obtain ⟨z, r1, r2⟩ := E.H.cell hc hL
      refine .pureVal E.H (x := z) ?_ r2
      rw [hx]
      unfold Instr.loadAt loadVar
      rw [runB (run_sureAddr _ w), runB (run_isAgg hagg w)]
      simp only [Bool.false_eq_true, if_false]
      exact run_load r1
    · cases hev
  · cases hci

theorem store_isList {p : Pos} {off : Nat} {vs : AV} (h : H.store p off vs = some H') : vs.isList = true := by
  unfold Heap.store at h
  split at h
  · split at h
    · simp only [Option.map_eq_some_iff] at h
      obtain ⟨t, ht, _⟩ := h
      exact (putCells_get _ _ _ _ ht).1
    · cases h
  · cases h

theorem ok_store (E : Env P C ρ ns ls fr a H w) {t : TypeId} {x y : Operand} (hci : opP P C ns (.store t x y) = some ci) (hev : ci.ev ls fr H = some (v, H')) :
    OpOk P C.ng ρ H w (do Instr.storeAt t (a.eval x) (a.eval y); pure .skip) v H' := by
  simp only [opP] at hci
  split at hci
  · rename_i n x' y' hn hx hy
    cases hci
    obtain ⟨u, hu, hev⟩ := bindO hev
    split at hev
    · rename_i p off
      obtain ⟨z, hz, hev⟩ := bindO hev
      simp only at hev
      split at hev
      · rename_i hlen
        obtain ⟨H1, h1, e⟩ := bindO hev
        cases e
        obtain ⟨L, hL, hxe⟩ := (E.opd hx hu).ptr_eq
        have hl := store_isList h1
        have hr := (E.opd hy hz).cells hl
        obtain ⟨w', r1, r2, r3⟩ := E.H.store (P := P) h1 hL hr
        refine .ofSkip ⟨w', ?_, r2, r3⟩
        rw [hxe]
        unfold Instr.storeAt storeVar
        rw [runB (run_sureAddr _ w), runB (run_sizeOf hn w)]
        have : (a.eval y).cells.size = n := by
          have := hr.len hl
          rw [hlen] at this
          simpa using this.symm
        rw [if_neg (by simpa using this)]
        exact r1
      · cases hev
    · cases hev
  · cases hci

theorem ok_nilCheck (E : Env P C ρ ns ls fr a H w) {x : Operand} {y : Opd} (hx : Dx.opd C ns x = some y) (hev : (CI.nilCheck y).ev ls fr H = some (v, H')) (hop : o.op = .nilCheck x) :
    OpOk P C.ng ρ H w (execOp a.eval o) v H' := by
  obtain ⟨u, hu, hev⟩ := bindO hev
  have hr := E.opd hx hu
  unfold execOp
  simp only [hop]
  split at hev
  · cases hev
    obtain ⟨L, hL, hxe⟩ := hr.ptr_eq
    rw [hxe] at hr ⊢
    exact OpOk.val E.H rfl hr
  · rename_i f0 a0 b0
    cases hev
    have hr2 := hr
    obtain ⟨p, q, f, hf, hxe, _⟩ := hr2
    cases hf
    have hxe2 : a.eval x = .func (.func f0) p q := by simpa using hxe
    rw [hxe2] at hr ⊢
    exact OpOk.val E.H rfl hr
  · cases hev
    obtain ⟨z, hxe, _⟩ := hr.iface_eq
    rw [hxe] at hr ⊢
    exact OpOk.val E.H rfl hr
  · cases hev

/-! Numbers, texts, comparing. -/
theorem run_guard_none {op : BinOp} {t : TypeId} (ox oy : Operand) {x y : Value} (h1 : ¬ (x = .nilIface ∧ y = .nilIface)) (h2 : ¬ ∃ xs ys, x = .agg xs ∧ y = .agg ys) (w : World) : (eqGuard op t ox oy x y).run P w = .ok () w := by
  cases op <;> first
    | rfl
    | (unfold eqGuard
       simp only [Bool.not_true, Bool.false_eq_true, if_false]
       split
       · exact absurd ⟨rfl, rfl⟩ h1
       · exact absurd ⟨_, _, rfl, rfl⟩ h2
       · rfl)

theorem run_bin {op : BinOp} {t : TypeId} {ox oy : Operand} {x y z : Value} (h1 : (eqGuard op t ox oy x y).run P w = .ok () w) (h2 : (binOp op t x y).run P w = .ok z w) :
    (do eqGuard op t ox oy x y; binOp op t x y : Sem Value).run P w = .ok z w := by
  show (eqGuard op t ox oy x y >>= fun _ => binOp op t x y).run P w = _
  rw [runB h1, h2]

theorem ok_ifaces (E : Env P C ρ ns ls fr a H w) {op : BinOp} {t : TypeId} {x y : Operand} (hok : ifaceOk P t x y = false) (hci : ifacesP op (opd C ns x) (opd C ns y) = some ci) (hev : ci.ev ls fr H = some (v, H')) :
    OpOk P C.ng ρ H w (do pure (.value (← (do eqGuard op t x y (a.eval x) (a.eval y); binOp op t (a.eval x) (a.eval y))))) v H' := by
  have hd : EqDesc P t .ifaces := by
    unfold ifaceOk at hok
    split at hok
    · rename_i ms hu; exact ⟨ms, hu⟩
    · cases hok
  unfold ifacesP at hci
  split at hci
  · rename_i x' y' hx hy
    have fin : ∀ {ne : Bool} {op' : BinOp}, (op' = if ne then .neq else .eql) → ((CI.eq .ifaces ne x' y').ev ls fr H = some (v, H')) →
        OpOk P C.ng ρ H w (do pure (.value (← (do eqGuard op' t x y (a.eval x) (a.eval y); binOp op' t (a.eval x) (a.eval y))))) v H' := by
      intro ne op' hop' hev
      obtain ⟨u, hu1, hev⟩ := bindO hev
      obtain ⟨u', hu2, hev⟩ := bindO hev
      obtain ⟨b, hb, e⟩ := bindO hev
      cases e
      have r1 := E.opd hx hu1
      have r2 := E.opd hy hu2
      have he := run_equal hd E.H r1 r2 hb
      have hb2 : ∀ (X Y : Value), a.eval x = X → a.eval y = Y → ¬ (X = .nilIface ∧ Y = .nilIface) → (¬ ∃ xs ys, X = .agg xs ∧ Y = .agg ys) → (binOp op' t X Y = (do pure (.bool ((← Op.equal t X Y) != ne)) : Sem Value)) → OpOk P C.ng ρ H w (do pure (.value (← (do eqGuard op' t x y (a.eval x) (a.eval y); binOp op' t (a.eval x) (a.eval y))))) (.bool (b != ne)) H := by
        intro X Y e1 e2 n1 n2 e3
        subst e1 e2
        refine .pureVal E.H (run_bin (run_guard_none x y n1 n2 w) ?_) rfl
        rw [e3]
        show (Op.equal t (a.eval x) (a.eval y) >>= fun r => (pure (.bool (r != ne)) : Sem Value)).run P w = _
        rw [runB he]
        rfl
      have ne0 : ∀ (X Y : Value), (binOp .eql t X Y = (do pure (.bool (← Op.equal t X Y)) : Sem Value)) → (binOp .neq t X Y = (do pure (.bool (!(← Op.equal t X Y))) : Sem Value)) → binOp op' t X Y = (do pure (.bool ((← Op.equal t X Y) != ne)) : Sem Value) := by
        intro X Y h1 h2
        rw [hop']
        cases ne
        · simp only [Bool.false_eq_true, if_false, h1, Bool.bne_false]
        · simp only [if_true, h2, Bool.bne_true]
      have nl : ∀ {X : AV} {V Y : Value}, RX ρ X [V] → (∀ l, RX ρ X l → l = [Y]) → V = Y := by
        intro X V Y h1 h2
        have := h2 _ h1
        simpa using this
      cases u with
      | niliface => cases u' with
        | iface _ _ => obtain ⟨_, e2, _⟩ := r2.iface_eq; exact hb2 _ _ (nl r1 fun _ h => h) e2 (by rintro ⟨_, h⟩; cases h) (by rintro ⟨_, _, h, _⟩; cases h) (ne0 _ _ rfl rfl)
        | _ => cases hb
      | iface _ _ => cases u' with
        | niliface => obtain ⟨_, e1, _⟩ := r1.iface_eq; exact hb2 _ _ e1 (nl r2 fun _ h => h) (by rintro ⟨h, _⟩; cases h) (by rintro ⟨_, _, h, _⟩; cases h) (ne0 _ _ rfl rfl)
        | _ => cases hb
      | _ => cases hb
    split at hci
    · rename_i hop; cases hci; subst hop; exact fin (ne := false) rfl hev
    · split at hci
      · rename_i hop; cases hci; subst hop; exact fin (ne := true) rfl hev
      · cases hci
  · cases hci

theorem ok_binOp (E : Env P C ρ ns ls fr a H w) {op : BinOp} {t t' : TypeId} {x y : Operand} (hci : opP P C ns (.binOp op t x y t') = some ci) (hev : ci.ev ls fr H = some (v, H')) :
    OpOk P C.ng ρ H w (do pure (.value (← (do eqGuard op t x y (a.eval x) (a.eval y); binOp op t (a.eval x) (a.eval y))))) v H' := by
  simp only [opP] at hci
  split at hci
  · rename_i hok
    exact ok_ifaces E (by simpa using hok) hci hev
  · rename_i hok
    simp only [Bool.not_eq_true, Bool.not_eq_false'] at hok
    split at hci
    · rename_i x' y' hx hy
      have two : ∀ {f : AV → AV → Option (AV × Heap)}, ((x'.ev ls fr).bind fun u => (y'.ev ls fr).bind fun u' => f u u') = some (v, H') → ∃ u u', RX ρ u [a.eval x] ∧ RX ρ u' [a.eval y] ∧ f u u' = some (v, H') := by
        intro f h
        obtain ⟨u, hu, h⟩ := bindO h
        obtain ⟨u', hu', h⟩ := bindO h
        exact ⟨u, u', E.opd hx hu, E.opd hy hu', h⟩
      unfold binP at hci
      split at hci
      · rename_i k hu
        have ints : ∀ {c d : Nat} {m n : Int}, RX ρ (.int c m) [a.eval x] → RX ρ (.int d n) [a.eval y] → (eqGuard op t x y (a.eval x) (a.eval y)).run P w = .ok () w := by
          intro c d m n h1 h2
          refine run_guard_none x y ?_ ?_ w
          · rw [h1.int_eq.2]; simp
          · rw [h1.int_eq.2]; simp
        split at hci
        · cases hci
          obtain ⟨u, hu1, g1⟩ := bindO hev
          obtain ⟨⟨j, m⟩, hj, g2⟩ := bindO g1
          obtain ⟨u', hu2, g3⟩ := bindO g2
          obtain ⟨⟨k', n⟩, hk, g4⟩ := bindO g3
          have e1 := asInt_eq hj
          have e2 := asInt_eq hk
          subst e1 e2
          simp only at g4
          split at g4
          · rename_i hc
            obtain ⟨z, hz, e⟩ := bindO g4
            cases e
            have r1 := E.opd hx hu1
            have r2 := E.opd hy hu2
            have hg := ints r1 r2
            obtain ⟨c1, x1⟩ := r1.int_eq
            obtain ⟨c2, x2⟩ := r2.int_eq
            rw [hc.1] at x1 c1
            rw [hc.2] at x2
            rw [x1, x2] at hg ⊢
            obtain ⟨z', hz1, hz2⟩ := run_arith (P := P) (ρ := ρ) t c1 hz w
            exact .pureVal E.H (run_bin hg hz1) hz2
          · cases g4
        · split at hci
          · cases hci
            obtain ⟨u, hu1, g1⟩ := bindO hev
            obtain ⟨u', hu2, g3⟩ := bindO g1
            obtain ⟨z, hz, e⟩ := bindO g3
            cases e
            obtain ⟨c, m, n, hc, x1, x2, hz⟩ := cmpV_rel hz (E.opd hx hu1) (E.opd hy hu2)
            have hg := ints (c := c) (d := c) (m := m) (n := n) ⟨hc, by rw [x1]⟩ ⟨hc, by rw [x2]⟩
            rw [x1, x2] at hg ⊢
            exact .pureVal E.H (run_bin hg (run_cmp t hz w)) rfl
          · cases hci
            obtain ⟨u, hu1, g1⟩ := bindO hev
            obtain ⟨⟨j, m⟩, hj, g2⟩ := bindO g1
            obtain ⟨u', hu2, g3⟩ := bindO g2
            obtain ⟨⟨k', n⟩, hk, g4⟩ := bindO g3
            have e1 := asInt_eq hj
            have e2 := asInt_eq hk
            subst e1 e2
            simp only at g4
            split at g4
            · rename_i hc
              obtain ⟨z, hz, e⟩ := bindO g4
              cases e
              have r1 := E.opd hx hu1
              have r2 := E.opd hy hu2
              have hg := ints r1 r2
              obtain ⟨c1, x1⟩ := r1.int_eq
              obtain ⟨c2, x2⟩ := r2.int_eq
              rw [hc] at x1 c1
              rw [x1, x2] at hg ⊢
              obtain ⟨z', hz1, hz2⟩ := run_shift (P := P) (ρ := ρ) (d := k') t c1 hz w
              exact .pureVal E.H (run_bin hg hz1) hz2
            · cases g4
      · rename_i hu
        have strs : ∀ {l n : Nat}, RX ρ (.str l n) [a.eval x] → (eqGuard op t x y (a.eval x) (a.eval y)).run P w = .ok () w := by
          intro l n h1
          refine run_guard_none x y ?_ ?_ w
          · rw [h1.str_eq.2]; simp
          · rw [h1.str_eq.2]; simp
        split at hci
        · rename_i hop
          cases hci
          obtain ⟨u, hu1, hev⟩ := bindO hev
          obtain ⟨u', hu2, hev⟩ := bindO hev
          split at hev
          · split at hev
            · rename_i l n k m hl
              cases hev
              have r1 := E.opd hx hu1
              have r2 := E.opd hy hu2
              have hg := strs r1
              obtain ⟨c1, x1⟩ := r1.str_eq
              obtain ⟨c2, x2⟩ := r2.str_eq
              rw [x1, x2] at hg ⊢
              subst hop
              exact .pureVal E.H (run_bin hg (run_cat t c1 hl w)) ⟨cat_lt c1 c2, rfl⟩
            · cases hev
          · cases hev
        · split at hci
          · cases hci
            obtain ⟨u, hu1, hev⟩ := bindO hev
            obtain ⟨u', hu2, hev⟩ := bindO hev
            split at hev
            · rename_i l n k m
              obtain ⟨b, hb, e⟩ := bindO hev
              cases e
              have r1 := E.opd hx hu1
              have r2 := E.opd hy hu2
              have hg := strs r1
              obtain ⟨c1, x1⟩ := r1.str_eq
              obtain ⟨c2, x2⟩ := r2.str_eq
              rw [x1, x2] at hg ⊢
              exact .pureVal E.H (run_bin hg (run_scmp t c1 c2 hb w)) rfl
            · cases hev
          · cases hci
      · rename_i hn1 hn2
        split at hci
        · cases hci
        · rename_i k hk
          have hd := eqP_desc hk
          have fin : ∀ {ne : Bool} {op' : BinOp}, (op' = if ne then .neq else .eql) → ((CI.eq k ne x' y').ev ls fr H = some (v, H')) →
              OpOk P C.ng ρ H w (do pure (.value (← (do eqGuard op' t x y (a.eval x) (a.eval y); binOp op' t (a.eval x) (a.eval y))))) v H' := by
            intro ne op' hop' hev
            obtain ⟨u, hu1, hev⟩ := bindO hev
            obtain ⟨u', hu2, hev⟩ := bindO hev
            obtain ⟨b, hb, e⟩ := bindO hev
            cases e
            have r1 := E.opd hx hu1
            have r2 := E.opd hy hu2
            have hg := run_guard (op := op') (w := w) hd x y hok r1 r2 hb
            have he := run_equal hd E.H r1 r2 hb
            have hb2 : ∀ (X Y : Value), a.eval x = X → a.eval y = Y → (binOp op' t X Y = (do pure (.bool ((← Op.equal t X Y) != ne)) : Sem Value)) → (binOp op' t (a.eval x) (a.eval y)).run P w = .ok (.bool (b != ne)) w := by
              intro X Y e1 e2 e3
              subst e1 e2
              rw [e3]
              show (Op.equal t (a.eval x) (a.eval y) >>= fun r => (pure (.bool (r != ne)) : Sem Value)).run P w = _
              rw [runB he]
              rfl
            refine .pureVal E.H (run_bin hg ?_) rfl
            have ne0 : ∀ (X Y : Value), (binOp .eql t X Y = (do pure (.bool (← Op.equal t X Y)) : Sem Value)) → (binOp .neq t X Y = (do pure (.bool (!(← Op.equal t X Y))) : Sem Value)) → binOp op' t X Y = (do pure (.bool ((← Op.equal t X Y) != ne)) : Sem Value) := by
              intro X Y h1 h2
              rw [hop']
              cases ne
              · simp only [Bool.false_eq_true, if_false, h1, Bool.bne_false]
              · simp only [if_true, h2, Bool.bne_true]
            have nl : ∀ {X : AV} {V Y : Value}, RX ρ X [V] → (∀ l, RX ρ X l → l = [Y]) → V = Y := by
              intro X V Y h1 h2
              have := h2 _ h1
              simpa using this
            have osl : ∀ {p : Pos} {o l s : Nat} {V : Value}, RX ρ (.oslice p o l s) [V] → ∃ q n c, V = .slice (some q) n c := by
              intro p o l s V h1
              obtain ⟨L, _, h1⟩ := h1
              rcases h1 with ⟨_, _, _, e⟩ | ⟨_, _, _, e⟩ <;> cases e <;> exact ⟨_, _, _, rfl⟩
            have fnc : ∀ {f : Fn} {p q : AV} {V : Value}, RX ρ (.func f p q) [V] → ∃ x y, V = .func f x y := by
              intro f p q V h1
              obtain ⟨x, y, _, _, e, _⟩ := h1
              cases e
              exact ⟨_, _, rfl⟩
            unfold eqA at hb
            split at hb
            · unfold eqLeaf at hb
              split at hb
              · have hl : leafP P t = some .int := hd
                unfold leafP at hl
                split at hl
                · rename_i hu; exact absurd hu (hn1 _)
                · cases hl
                · cases hl
                · cases hl
              · have hl : leafP P t = some .str := hd
                unfold leafP at hl
                split at hl
                · cases hl
                · rename_i hu; exact absurd hu hn2
                · cases hl
                · cases hl
              · exact hb2 _ _ r1.bool_eq r2.bool_eq (ne0 _ _ rfl rfl)
              · have hl : leafP P t = some .int := hd
                unfold leafP at hl
                split at hl
                · rename_i hu; exact absurd hu (hn1 _)
                · cases hl
                · cases hl
                · cases hl
              · cases hb
            · obtain ⟨xs, e1, _⟩ := r1.agg_eq; obtain ⟨ys, e2, _⟩ := r2.agg_eq; exact hb2 _ _ e1 e2 (ne0 _ _ rfl rfl)
            · exact hb2 _ _ (nl r1 fun _ h => h) (nl r2 fun _ h => h) (ne0 _ _ rfl rfl)
            · obtain ⟨_, _, e2⟩ := r2.ptr_eq; exact hb2 _ _ (nl r1 fun _ h => h) e2 (ne0 _ _ rfl rfl)
            · obtain ⟨_, _, e1⟩ := r1.ptr_eq; exact hb2 _ _ e1 (nl r2 fun _ h => h) (ne0 _ _ rfl rfl)
            · obtain ⟨_, _, e1⟩ := r1.ptr_eq; obtain ⟨_, _, e2⟩ := r2.ptr_eq; exact hb2 _ _ e1 e2 (ne0 _ _ rfl rfl)
            · exact hb2 _ _ (nl r1 fun _ h => h) (nl r2 fun _ h => h) (ne0 _ _ rfl rfl)
            · obtain ⟨_, _, _, e2⟩ := r2.slice_eq; exact hb2 _ _ (nl r1 fun _ h => h) e2 (ne0 _ _ rfl rfl)
            · obtain ⟨_, _, _, e2⟩ := osl r2; exact hb2 _ _ (nl r1 fun _ h => h) e2 (ne0 _ _ rfl rfl)
            · obtain ⟨_, _, _, e1⟩ := r1.slice_eq; exact hb2 _ _ e1 (nl r2 fun _ h => h) (ne0 _ _ rfl rfl)
            · obtain ⟨_, _, _, e1⟩ := osl r1; exact hb2 _ _ e1 (nl r2 fun _ h => h) (ne0 _ _ rfl rfl)
            · exact hb2 _ _ (nl r1 fun _ h => h) (nl r2 fun _ h => h) (ne0 _ _ rfl rfl)
            · obtain ⟨_, _, e2⟩ := r2.map_eq; exact hb2 _ _ (nl r1 fun _ h => h) e2 (ne0 _ _ rfl rfl)
            · obtain ⟨_, _, e1⟩ := r1.map_eq; exact hb2 _ _ e1 (nl r2 fun _ h => h) (ne0 _ _ rfl rfl)
            · exact hb2 _ _ (nl r1 fun _ h => h) (nl r2 fun _ h => h) (ne0 _ _ rfl rfl)
            · obtain ⟨_, _, e2⟩ := fnc r2; exact hb2 _ _ (nl r1 fun _ h => h) e2 (ne0 _ _ rfl rfl)
            · obtain ⟨_, _, e1⟩ := fnc r1; exact hb2 _ _ e1 (nl r2 fun _ h => h) (ne0 _ _ rfl rfl)
            · exact hb2 _ _ (nl r1 fun _ h => h) (nl r2 fun _ h => h) (ne0 _ _ rfl rfl)
            · obtain ⟨_, e2, _⟩ := r2.iface_eq; exact hb2 _ _ (nl r1 fun _ h => h) e2 (ne0 _ _ rfl rfl)
            · obtain ⟨_, e1, _⟩ := r1.iface_eq; exact hb2 _ _ e1 (nl r2 fun _ h => h) (ne0 _ _ rfl rfl)
            · obtain ⟨_, e2, _⟩ := r2.iface_eq; exact hb2 _ _ (nl r1 fun _ h => h) e2 (ne0 _ _ rfl rfl)
            · obtain ⟨_, e1, _⟩ := r1.iface_eq; exact hb2 _ _ e1 (nl r2 fun _ h => h) (ne0 _ _ rfl rfl)
            · cases hb
          split at hci
          · rename_i hop; cases hci; subst hop; exact fin (ne := false) rfl hev
          · split at hci
            · rename_i hop; cases hci; subst hop; exact fin (ne := true) rfl hev
            · cases hci
    · cases hci

end
end Go.Dx
set_option linter.unusedSimpArgs false
set_option linter.unusedVariables false
set_option linter.unusedSectionVars false
namespace Go.Dx

section
variable {P : Program} {C : Ctx} {ρ : Ren} {ns : List (Option Tmp)} {ls : AV} {fr : Tr AV} {a : Act} {H H' : Heap} {w : World} {v : AV} {ci : CI} {o : Oper}

theorem wrap_kind (c : Nat) (n : Int) (hc : c < 8) : RX ρ (.int c ((kindOf c).wrap n)) [.int (kindOf c) ((kindOf c).wrap n)] := ⟨hc, rfl⟩

theorem ok_unOp (E : Env P C ρ ns ls fr a H w) {op : UnOp} {t : TypeId} {x : Operand} (hci : opP P C ns (.unOp op t x) = some ci) (hev : ci.ev ls fr H = some (v, H')) :
    OpOk P C.ng ρ H w (do pure (.value (← Op.unary op (a.eval x)))) v H' := by
  simp only [opP] at hci
  split at hci
  · rename_i y hy
    cases hci
    obtain ⟨u, hu, g1⟩ := bindO hev
    obtain ⟨⟨c, n⟩, hj, g2⟩ := bindO g1
    have e1 := asInt_eq hj
    subst e1
    obtain ⟨z, hz, e⟩ := bindO g2
    cases e
    obtain ⟨hc, hx⟩ := (E.opd hy hu).int_eq
    simp only [arithI] at hz
    cases hz
    refine .pureVal E.H (x := .int (kindOf c) ((kindOf c).wrap (0 - n))) ?_ ⟨hc, rfl⟩
    rw [hx]; rfl
  · rename_i y hy
    cases hci
    obtain ⟨u, hu, g1⟩ := bindO hev
    obtain ⟨⟨c, n⟩, hj, g2⟩ := bindO g1
    have e1 := asInt_eq hj
    subst e1
    obtain ⟨z, hz, e⟩ := bindO g2
    cases e
    obtain ⟨hc, hx⟩ := (E.opd hy hu).int_eq
    simp only [arithI] at hz
    cases hz
    refine .pureVal E.H (x := .int (kindOf c) _) ?_ ⟨hc, rfl⟩
    rw [hx]; rfl
  · rename_i y hy
    cases hci
    obtain ⟨u, hu, g1⟩ := bindO hev
    obtain ⟨b, hb, e⟩ := bindO g1
    cases e
    have e1 := asBool_eq hb
    subst e1
    refine .pureVal E.H (x := .bool (!b)) ?_ rfl
    rw [(E.opd hy hu).bool_eq]; rfl
  · cases hci

theorem ok_makeInterface (E : Env P C ρ ns ls fr a H w) {t : TypeId} {x : Operand} (hci : opP P C ns (.makeInterface t x) = some ci) (hev : ci.ev ls fr H = some (v, H')) :
    OpOk P C.ng ρ H w (do pure (.value (← Instr.makeInterface t (a.eval x)))) v H' := by
  simp only [opP] at hci
  split at hci
  · cases hci
  · rename_i d y hni hu hy
    cases hci
    obtain ⟨u, hu1, e⟩ := bindO hev
    cases e
    refine .pureVal E.H (x := .iface t (a.eval x)) ?_ ⟨_, rfl, E.opd hy hu1⟩
    unfold Instr.makeInterface
    rw [runB (run_underlying hu w)]
    cases d <;> first | rfl | exact (hni _ rfl).elim
  · cases hci

theorem ok_makeFunc (E : Env P C ρ ns ls fr a H w) {fn : Fn} {f c : Array Operand} (hci : opP P C ns (.makeFunc fn f c) = some ci) (hev : ci.ev ls fr H = some (v, H')) :
    OpOk P C.ng ρ H w (do pure (.value (← Instr.makeFunc fn (f.map a.eval) (c.map a.eval)))) v H' := by
  simp only [opP] at hci
  split at hci
  · rename_i g x y hx hy
    cases hci
    obtain ⟨u, hu1, g1⟩ := bindO hev
    obtain ⟨u', hu2, e⟩ := bindO g1
    cases e
    obtain ⟨r1, i1⟩ := E.opds hx hu1
    obtain ⟨r2, i2⟩ := E.opds hy hu2
    exact .pureVal E.H (x := .func (.func g) (f.map a.eval) (c.map a.eval)) rfl ⟨_, _, g, rfl, rfl, i1, i2, by simpa using r1, by simpa using r2⟩
  · cases hci

theorem newMap_ok {ng : Nat} (hH : HRel P ng ρ H w) : ∃ ρ' w', (newObj (.map #[] 0)).run P w = .ok w.heap.size w' ∧ ρ' H.next = some ⟨w.heap.size, 0, 0⟩ ∧ HRel P ng ρ' (H.new (.map .nil 0)).2 w' ∧ Step ρ H w ρ' (H.new (.map .nil 0)).2 w' := by
  refine ⟨ρ.put H.next ⟨w.heap.size, 0, 0⟩, pushed w (.map #[] 0), rfl, by simp [Ren.put], hH.alloc rfl ?_ (by simp), Step.alloc hH rfl rfl rfl rfl⟩
  intro ρ' _
  exact ⟨#[], by show (w.heap.push _)[w.heap.size]? = _; rw [Array.getElem?_push_size], rfl⟩

theorem ok_makeMap (E : Env P C ρ ns ls fr a H w) {t : TypeId} {r : Option Operand} (hci : opP P C ns (.makeMap t r) = some ci) (hev : ci.ev ls fr H = some (v, H')) :
    OpOk P C.ng ρ H w (do pure (.value (← Instr.makeMap t (r.map a.eval)))) v H' := by
  obtain ⟨ρ', w', r1, r2, r3, r4⟩ := newMap_ok (P := P) E.H
  simp only [opP] at hci
  have fin : ∀ {s : Sem Value}, s.run P w = ((do pure (.map (some (← newObj (.map #[] 0)))) : Sem Value).run P w) → ci = .mkMap → OpOk P C.ng ρ H w (do pure (.value (← s))) v H' := by
    intro s hs hc
    subst hc
    cases hev
    refine .ofVal ⟨ρ', w', .map (some w.heap.size), ?_, ⟨_, r2, rfl⟩, r3, r4⟩
    rw [hs]
    show (newObj (.map #[] 0) >>= fun n => (pure (.map (some n)) : Sem Value)).run P w = _
    rw [runB r1]; rfl
  split at hci
  · cases hci
    exact fin rfl rfl
  · rename_i k n _ _ hu
    cases hci
    refine fin ?_ rfl
    show (Instr.makeMap t (some (.int k n))).run P w = _
    unfold Instr.makeMap
    simp only
    rw [runB (run_underlying hu w)]
    rfl
  · cases hci

theorem ok_extract (E : Env P C ρ ns ls fr a H w) {j : Nat} {x : Operand} {y : Opd} (hx : Dx.opd C ns x = some y) (hev : (CI.extract j y).ev ls fr H = some (v, H')) :
    OpOk P C.ng ρ H w (do pure (.value (← Instr.extract (a.eval x) j))) v H' := by
  obtain ⟨u, hu, g1⟩ := bindO hev
  split at g1
  · rename_i vs
    obtain ⟨z, hz, e⟩ := bindO g1
    cases e
    obtain ⟨xs, hxe, _, hr⟩ := (E.opd hx hu).tuple_eq
    obtain ⟨y', hy, hr'⟩ := hr.nth hz
    refine .pureVal E.H (x := y') ?_ hr'
    rw [hxe]
    unfold Instr.extract
    simp only
    rw [show xs[j]? = some y' by simpa using hy]
    rfl
  · cases g1

theorem run_fieldPlace {s : TypeId} {f : Field} {n : Nat} (hs : sizeP P f.type = some n) (hn : n ≠ 0) (x : Addr) (w : World) : (fieldPlace x f).run P w = .ok (x.add f.offset) w := by
  unfold fieldPlace
  rw [runB (run_sizeOf hs w), if_neg hn]
  rfl

theorem ok_fieldAddr (E : Env P C ρ ns ls fr a H w) {s : TypeId} {x : Operand} {j : Nat} (hci : opP P C ns (.fieldAddr s x j) = some ci) (hev : ci.ev ls fr H = some (v, H')) :
    OpOk P C.ng ρ H w (do pure (.value (← Instr.fieldAt s (a.eval x) j))) v H' := by
  simp only [opP] at hci
  split at hci
  · rename_i fs hu
    split at hci
    · rename_i off n y hf hy
      split at hci
      · cases hci
      · rename_i hn
        cases hci
        obtain ⟨u, hu1, g1⟩ := bindO hev
        split at g1
        · rename_i p o
          cases g1
          obtain ⟨L, hL, hxe⟩ := (E.opd hy hu1).ptr_eq
          obtain ⟨f, hf1, hf2, hf3⟩ := fieldsAt_eq hf
          refine .pureVal E.H (x := .pointer (some ⟨L.b, L.base + (o + off), none⟩)) ?_ ⟨L, hL, rfl⟩
          rw [hxe]
          unfold Instr.fieldAt
          rw [runB (run_underlying hu w)]
          simp only [show fs[j]? = some f by simpa using hf1]
          rw [runB (run_sureAddr _ w), runB (run_fieldPlace (s := s) hf3 hn _ w), addr_add, hf2, Nat.add_assoc]
          rfl
        · cases g1
    · cases hci
  · cases hci

theorem run_partN {t : TypeId} {xs : Array Value} {off n : Nat} (ht : isAggP P t = some true) (hn : sizeP P t = some n) (w : World) : (part t xs off).run P w = .ok (.agg (xs.extract off (off + n))) w := by
  unfold part
  rw [runB (run_isAgg ht w)]
  simp only [if_true]
  rw [runB (run_sizeOf hn w)]
  rfl

theorem part_rel {cs : AV} {xs : Array Value} (hr : RX ρ cs xs.toList) (hl : cs.isList = true) (off n : Nat) : RX ρ (.agg ((cs.drop off).take n)) [.agg (xs.extract off (off + n))] := by
  obtain ⟨d1, d2⟩ := hr.drop (n := off) hl
  obtain ⟨t1, t2⟩ := d1.take (n := n) d2
  refine ⟨_, rfl, t2, ?_⟩
  have : (xs.extract off (off + n)).toList = (xs.toList.drop off).take n := by
    rw [Array.toList_extract, List.extract_eq_take_drop]
    simp
  rw [this]
  exact t1

theorem ok_field (E : Env P C ρ ns ls fr a H w) {s : TypeId} {x : Operand} {j : Nat} (hci : opP P C ns (.field s x j) = some ci) (hev : ci.ev ls fr H = some (v, H')) :
    OpOk P C.ng ρ H w (do pure (.value (← Instr.field s (a.eval x) j))) v H' := by
  simp only [opP] at hci
  split at hci
  · rename_i fs hu
    split at hci
    · rename_i f off n y hf0 hf hy
      obtain ⟨f', hf1, hf2, hf3⟩ := fieldsAt_eq hf
      rw [hf0] at hf1; cases hf1
      have hfs : fs[j]? = some f := by simpa using hf0
      split at hci
      · rename_i hagg
        cases hci
        obtain ⟨u, hu1, g1⟩ := bindO hev
        split at g1
        · rename_i cs
          split at g1
          · rename_i hle
            cases g1
            obtain ⟨xs, hxe, hl, hr⟩ := (E.opd hy hu1).agg_eq
            refine .pureVal E.H ?_ (part_rel hr hl off n)
            rw [hxe]
            unfold Instr.field
            rw [runB (run_underlying hu w)]
            simp only [hfs]
            show (part f.type xs f.offset).run P w = _
            rw [hf2]
            exact run_partN hagg hf3 w
          · cases g1
        · cases g1
      · rename_i hagg
        cases hci
        obtain ⟨u, hu1, g1⟩ := bindO hev
        split at g1
        · rename_i cs
          obtain ⟨z, hz, e⟩ := bindO g1
          cases e
          obtain ⟨xs, hxe, hl, hr⟩ := (E.opd hy hu1).agg_eq
          obtain ⟨y', hy', hr'⟩ := hr.nth hz
          refine .pureVal E.H ?_ hr'
          rw [hxe]
          unfold Instr.field
          rw [runB (run_underlying hu w)]
          simp only [hfs]
          show (part f.type xs f.offset).run P w = _
          rw [hf2]
          exact run_part1 hagg (by simpa using hy') w
        · cases g1
      · cases hci
    · cases hci
  · cases hci

theorem run_asIntOf (k : IntKind) (n : Int) (w : World) : (asIntOf (.int k n)).run P w = .ok (k, n) w := rfl

theorem nat_eq {u : AV} {i : Nat} {x : Value} (hr : RX ρ u [x]) (h : asNat u = some i) : ∃ k, x = .int k (i : Int) := by
  obtain ⟨c, rfl⟩ := asNat_eq h
  exact ⟨_, hr.int_eq.2⟩

theorem ok_indexAddr (E : Env P C ρ ns ls fr a H w) {t : TypeId} {x y : Operand} (hci : opP P C ns (.indexAddr t x y) = some ci) (hev : ci.ev ls fr H = some (v, H')) :
    OpOk P C.ng ρ H w (do pure (.value (← Instr.indexAt t (a.eval x) (a.eval y)))) v H' := by
  simp only [opP] at hci
  split at hci
  · rename_i e hu
    split at hci
    · rename_i n x' y' hn hx hy
      split at hci
      · cases hci
      · rename_i hn0
        cases hci
        obtain ⟨u, hu1, g1⟩ := bindO hev
        obtain ⟨i, hi, g2⟩ := bindO g1
        obtain ⟨u', hu2, g3⟩ := bindO g2
        obtain ⟨k, hye⟩ := nat_eq (E.opd hy hu1) hi
        have go : ∀ (L : Loc) (p : Pos) (off len cap : Nat), ρ p = some L → i < len → a.eval x = .slice (some ⟨L.b, L.base + off, none⟩) len cap → v = .ptr p (off + i * n) → H' = H → OpOk P C.ng ρ H w (do pure (.value (← Instr.indexAt t (a.eval x) (a.eval y)))) v H' := by
          intro L p off len cap hL hlt hxe hv hH
          subst hv hH
          refine .pureVal E.H (x := .pointer (some ⟨L.b, L.base + (off + i * n), none⟩)) ?_ ⟨L, hL, rfl⟩
          rw [hxe, hye]
          unfold Instr.indexAt
          rw [runB (run_asIntOf _ _ w), runB (run_underlying hu w)]
          simp only
          rw [runB (runP P _ w)]
          simp only
          rw [runB (run_underlying hu w)]
          simp only
          rw [if_pos (by omega)]
          rw [runB (run_sizeOf hn w), addr_add]
          simp only [Int.toNat_natCast, Nat.add_assoc]
          rfl
        split at g3
        · rename_i p off len cap
          split at g3
          · rename_i hlt
            cases g3
            obtain ⟨L, hL, _, hxe⟩ := (E.opd hx hu2).slice_eq
            exact go L p off len cap hL hlt hxe rfl rfl
          · cases g3
        · rename_i p off len s
          split at g3
          · rename_i hlt
            cases g3
            obtain ⟨L, hL, hxe⟩ := E.opd hx hu2
            rcases hxe with ⟨cap, _, _, hxe⟩ | ⟨h0, _⟩
            · exact go L p off len cap hL hlt (by simpa using hxe) rfl rfl
            · omega
          · cases g3
        · cases g3
    · cases hci
  · rename_i k e hu
    split at hci
    · rename_i n x' y' hn hx hy
      cases hci
      obtain ⟨u, hu1, g1⟩ := bindO hev
      obtain ⟨i, hi, g2⟩ := bindO g1
      obtain ⟨u', hu2, g3⟩ := bindO g2
      obtain ⟨k', hye⟩ := nat_eq (E.opd hy hu1) hi
      split at g3
      · rename_i p off
        split at g3
        · rename_i hlt
          cases g3
          obtain ⟨L, hL, hxe⟩ := (E.opd hx hu2).ptr_eq
          refine .pureVal E.H (x := .pointer (some ⟨L.b, L.base + (off + i * n), none⟩)) ?_ ⟨L, hL, rfl⟩
          rw [hxe, hye]
          unfold Instr.indexAt
          rw [runB (run_asIntOf _ _ w), runB (run_underlying hu w)]
          simp only
          rw [runB (run_sureAddr _ w), runB (runP P _ w)]
          simp only
          rw [runB (run_underlying hu w)]
          simp only
          rw [if_pos (by omega)]
          rw [runB (run_sizeOf hn w), addr_add]
          simp only [Int.toNat_natCast, Nat.add_assoc]
          rfl
        · cases g3
      · cases g3
    · cases hci
  · cases hci

theorem ok_index (E : Env P C ρ ns ls fr a H w) {t : TypeId} {x y : Operand} (hci : opP P C ns (.index t x y) = some ci) (hev : ci.ev ls fr H = some (v, H')) :
    OpOk P C.ng ρ H w (do pure (.value (← Instr.index t (a.eval x) (a.eval y)))) v H' := by
  simp only [opP] at hci
  split at hci
  · rename_i hu
    split at hci
    · rename_i x' y' hx hy
      cases hci
      obtain ⟨u, hu1, g1⟩ := bindO hev
      obtain ⟨i, hi, g2⟩ := bindO g1
      obtain ⟨u', hu2, g3⟩ := bindO g2
      obtain ⟨k, hye⟩ := nat_eq (E.opd hy hu1) hi
      split at g3
      · rename_i len n
        split at g3
        · rename_i hlt
          cases g3
          obtain ⟨_, hxe⟩ := (E.opd hx hu2).str_eq
          refine .pureVal E.H (x := .int .u8 (byteAt n i)) ?_ ⟨by decide, rfl⟩
          rw [hxe, hye]
          unfold Instr.index
          rw [runB (run_asIntOf _ _ w), runB (run_underlying hu w)]
          simp only
          rw [if_pos (by omega), Int.toNat_natCast, textOf_get hlt]
          simp only
          rw [UInt8.toNat_ofNat', Nat.mod_eq_of_lt (byteAt_lt n i)]
          rfl
        · cases g3
      · cases g3
    · cases hci
  · rename_i k e hu
    split at hci
    · rename_i n x' y' hagg hn hx hy
      cases hci
      obtain ⟨u, hu1, g1⟩ := bindO hev
      obtain ⟨i, hi, g2⟩ := bindO g1
      obtain ⟨u', hu2, g3⟩ := bindO g2
      obtain ⟨k', hye⟩ := nat_eq (E.opd hy hu1) hi
      split at g3
      · rename_i cs
        split at g3
        · rename_i hc
          cases g3
          obtain ⟨xs, hxe, hl, hr⟩ := (E.opd hx hu2).agg_eq
          refine .pureVal E.H ?_ (part_rel hr hl (i * n) n)
          rw [hxe, hye]
          unfold Instr.index
          rw [runB (run_asIntOf _ _ w), runB (run_underlying hu w)]
          simp only
          rw [if_pos (by omega), runB (run_sizeOf hn w), Int.toNat_natCast]
          exact run_partN hagg hn w
        · cases g3
      · cases g3
    · rename_i x' y' hagg hn hx hy
      cases hci
      obtain ⟨u, hu1, g1⟩ := bindO hev
      obtain ⟨i, hi, g2⟩ := bindO g1
      obtain ⟨u', hu2, g3⟩ := bindO g2
      obtain ⟨k', hye⟩ := nat_eq (E.opd hy hu1) hi
      split at g3
      · rename_i cs
        split at g3
        · rename_i hc
          obtain ⟨z, hz, e⟩ := bindO g3
          cases e
          obtain ⟨xs, hxe, hl, hr⟩ := (E.opd hx hu2).agg_eq
          obtain ⟨y'', hy'', hr'⟩ := hr.nth hz
          refine .pureVal E.H ?_ hr'
          rw [hxe, hye]
          unfold Instr.index
          rw [runB (run_asIntOf _ _ w), runB (run_underlying hu w)]
          simp only
          rw [if_pos (by omega), runB (run_sizeOf hn w), Int.toNat_natCast, Nat.mul_one]
          exact run_part1 hagg (by simpa using hy'') w
        · cases g3
      · cases g3
    · cases hci
  · cases hci

theorem ok_typeAssert (E : Env P C ρ ns ls fr a H w) {x : Operand} {xt t : TypeId} {okc : Bool} (hci : opP P C ns (.typeAssert x xt t okc) = some ci) (hev : ci.ev ls fr H = some (v, H')) :
    OpOk P C.ng ρ H w (do pure (.value (← Instr.typeAssert (a.eval x) xt t okc))) v H' := by
  simp only [opP] at hci
  split at hci
  · cases hci
  · rename_i d hni hu
    split at hci
    · rename_i z y hz hy
      cases hci
      obtain ⟨zv, hz1, hz2⟩ := run_zero hz w
      obtain ⟨u, hu1, g1⟩ := bindO hev
      have pair : ∀ {p : AV} {q : Value} {b : Bool}, RX ρ p [q] → RX ρ (.tuple (.cons p (.cons (.bool b) .nil))) [.tuple #[q, .bool b]] := fun h => ⟨_, rfl, rfl, _, _, rfl, h, _, _, rfl, rfl, rfl⟩
      split at g1
      · split at g1
        · rename_i hok
          cases g1
          have hxe : a.eval x = .nilIface := by have := E.opd hy hu1; simpa [RX] using this
          refine .pureVal E.H (x := .tuple #[zv, .bool false]) ?_ (pair (hz2 ρ))
          rw [hxe]
          subst hok
          unfold Instr.typeAssert
          rw [runB (run_underlying hu w)]
          cases d <;> first | exact (hni _ rfl).elim | (simp only [if_true]; rw [runB hz1]; rfl)
        · cases g1
      · rename_i t' v'
        obtain ⟨xv, hxe, hr⟩ := (E.opd hy hu1).iface_eq
        split at g1
        · rename_i he
          cases g1
          subst he
          refine .pureVal E.H (x := if okc then .tuple #[xv, .bool true] else xv) ?_ (by cases okc; exact hr; exact pair hr)
          rw [hxe]
          unfold Instr.typeAssert
          rw [runB (run_underlying hu w)]
          cases d <;> first | exact (hni _ rfl).elim | (simp only [if_true]; rfl)
        · split at g1
          · rename_i hne hok
            cases g1
            refine .pureVal E.H (x := .tuple #[zv, .bool false]) ?_ (pair (hz2 ρ))
            rw [hxe]
            subst hok
            unfold Instr.typeAssert
            rw [runB (run_underlying hu w)]
            cases d <;> first | exact (hni _ rfl).elim | (simp only [hne, if_false, if_true]; rw [runB hz1]; rfl)
          · cases g1
      · cases g1
    · cases hci
  · cases hci

end
end Go.Dx
