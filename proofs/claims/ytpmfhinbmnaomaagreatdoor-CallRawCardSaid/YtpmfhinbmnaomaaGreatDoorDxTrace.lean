/-
  Regions that draw, first part: what operations hang on.
-/
import Derived.Test.YtpmfhinbmnaomaaGreatDoorDxReg
import Derived.Orders
set_option linter.unusedSimpArgs false
set_option linter.unusedVariables false
set_option linter.unusedSectionVars false
namespace Go.Dx

section
variable {P : Program} {C C' : Ctx} {ρ : Ren} {ns ns' : List (Option Tmp)} {ls : AV} {fr : Tr AV} {a : Act} {H H' : Heap} {w : World} {v : AV} {ci : CI} {o : Oper}

/-! What reads leaves memory alone. -/
theorem light_same (hl : ci.light = true) (h : ci.ev ls fr H = some (v, H')) : H' = H := by
  cases ci <;> first
    | (cases hl; done)
    | skip
  all_goals simp only [CI.ev, Option.bind_eq_bind] at h
  all_goals repeat' (first
    | (rw [Option.bind_eq_some_iff] at h; obtain ⟨_, _, h⟩ := h)
    | (split at h)
    | (cases h; rfl)
    | (cases h; done))

theorem beq_eq : ∀ {u v : AV}, AV.beq u v = true → u = v := by
  intro u
  induction u with
  | sym p a b => intro v h; cases v <;> simp [AV.beq] at h; obtain ⟨⟨h1, h2⟩, h3⟩ := h; rw [h1, h2, h3]
  | any => intro v h; cases v <;> simp [AV.beq] at h; rfl
  | bool b => intro v h; cases v <;> simp [AV.beq] at h; rw [h]
  | int c n => intro v h; cases v <;> simp [AV.beq] at h; rw [h.1, h.2]
  | str c n => intro v h; cases v <;> simp [AV.beq] at h; rw [h.1, h.2]
  | ptr c n => intro v h; cases v <;> simp [AV.beq] at h; rw [h.1, h.2]
  | nilptr => intro v h; cases v <;> simp [AV.beq] at h; rfl
  | slice p a b c => intro v h; cases v <;> simp [AV.beq] at h; obtain ⟨⟨⟨h1, h2⟩, h3⟩, h4⟩ := h; rw [h1, h2, h3, h4]
  | oslice p a b c => intro v h; cases v <;> simp [AV.beq] at h; obtain ⟨⟨⟨h1, h2⟩, h3⟩, h4⟩ := h; rw [h1, h2, h3, h4]
  | nilslice => intro v h; cases v <;> simp [AV.beq] at h; rfl
  | map p => intro v h; cases v <;> simp [AV.beq] at h; rw [h]
  | yield p => intro v h; cases v <;> simp [AV.beq] at h; rw [h]
  | nilmap => intro v h; cases v <;> simp [AV.beq] at h; rfl
  | func f a b iha ihb => intro v h; cases v <;> simp [AV.beq] at h; obtain ⟨⟨h1, h2⟩, h3⟩ := h; rw [h1, iha h2, ihb h3]
  | nilfunc => intro v h; cases v <;> simp [AV.beq] at h; rfl
  | iface t x ih => intro v h; cases v <;> simp [AV.beq] at h; rw [h.1, ih h.2]
  | niliface => intro v h; cases v <;> simp [AV.beq] at h; rfl
  | agg x ih => intro v h; cases v <;> simp [AV.beq] at h; rw [ih h]
  | tuple x ih => intro v h; cases v <;> simp [AV.beq] at h; rw [ih h]
  | nil => intro v h; cases v <;> simp [AV.beq] at h; rfl
  | cons a r iha ihr => intro v h; cases v <;> simp [AV.beq] at h; rw [iha h.1, ihr h.2]

theorem backs_get : ∀ {bk : Nat} {Hs : List Heap}, backs ci ls fr v bk Hs = true → ∀ c E, c < bk → Hs[c]? = some E → ∃ E', ci.ev ls fr E = some (v, E') := by
  intro bk
  induction bk with
  | zero => intro Hs _ c E hc; omega
  | succ bk ih =>
    intro Hs h c E hc hE
    cases Hs with
    | nil => simp at hE
    | cons H Hs =>
      simp only [backs, Bool.and_eq_true] at h
      cases c with
      | zero =>
        simp at hE
        subst hE
        obtain ⟨h1, _⟩ := h
        split at h1
        · rename_i u E' he
          exact ⟨E', by rw [he, beq_eq h1]⟩
        · cases h1
      | succ c => exact ih h.2 c E (by omega) (by simpa using hE)

/-! What makes a block whose content does not hang on memory. -/
theorem row_at {vs : AV} {op : Bool} {p : Pos} {q : Pos × Heap} (h : Heap.row ⟨p, .leaf⟩ vs op = some q) : ∃ t, treeOf vs = some t ∧ q.1 = p ∧ q.2.get p = some (.cells t vs.len op) := by
  unfold Heap.row at h
  obtain ⟨t, ht, rfl⟩ := Option.map_eq_some_iff.1 h
  exact ⟨t, ht, rfl, by simp [Heap.new, Heap.get, Tr.get_set_same]⟩

theorem row_any {vs : AV} {op : Bool} {t : Tr AV} (h : treeOf vs = some t) (H : Heap) : H.row vs op = some (H.new (.cells t vs.len op)) := by
  unfold Heap.row; rw [h]; rfl

theorem float_obj (hf : ci.float = true) {p : Pos} {F : Heap} (hev : ci.ev ls fr ⟨p, .leaf⟩ = some (v, F)) {ob : AO} (hF : F.get p = some ob) : ∃ t n op, ob = .cells t n op := by
  have fin : ∀ {vs : AV} {op : Bool} {q : Pos × Heap}, Heap.row ⟨p, .leaf⟩ vs op = some q → q.2 = F → ∃ t n op, ob = .cells t n op := by
    intro vs op q hq e
    obtain ⟨t, _, _, h3⟩ := row_at hq
    rw [e, hF] at h3
    cases h3
    exact ⟨_, _, _, rfl⟩
  cases ci <;> first | (cases hf; done) | skip
  case alloc z n =>
    simp only [CI.ev] at hev
    split at hev
    · cases hev
    · obtain ⟨q, hq, e⟩ := bindO hev
      cases e
      exact fin hq rfl
  case box x =>
    simp only [CI.ev] at hev
    obtain ⟨u, hu, g⟩ := bindO hev
    obtain ⟨q, hq, e⟩ := bindO g
    cases e
    exact fin hq rfl
  case buildSlice z n len ps =>
    simp only [CI.ev] at hev
    obtain ⟨u, hu, g⟩ := bindO hev
    split at g
    · cases g
    · obtain ⟨q, hq, e⟩ := bindO g
      cases e
      exact fin hq rfl

theorem float_ok (E : Env P C ρ ns ls fr a H w) (hci : opP P C ns o.op = some ci) (hf : ci.float = true) {p : Pos} {F : Heap} (hev : ci.ev ls fr ⟨p, .leaf⟩ = some (v, F)) :
    ∃ (vs : AV) (t : Tr AV) (c : Array Value) (elem : TypeId) (x : Value), treeOf vs = some t ∧ F.get p = some (.cells t vs.len false) ∧ RX ρ vs c.toList ∧
      (execOp a.eval o).run P w = .ok (.value x) (pushed w (.cells c elem)) ∧ ∀ ρ' sz, ρ' p = some ⟨w.heap.size, 0, sz⟩ → RX ρ' v [x] := by
  obtain ⟨dst, op, type, pos, after, guard⟩ := o
  cases op with
  | alloc t =>
    simp only [opP] at hci
    split at hci
    · cases hci; cases hf
    split at hci
    · rename_i z hz
      cases hci
      simp only [CI.ev, ne_eq, not_true_eq_false, if_false] at hev
      obtain ⟨q, hq, e⟩ := bindO hev
      cases e
      obtain ⟨tr, h1, h2, h3⟩ := row_at hq
      obtain ⟨u, n, k1, k2, k3, k4, k5, k6⟩ := zeroCells_run hz w
      refine ⟨z, tr, u.cells, t, .pointer (some ⟨w.heap.size, 0, none⟩), h1, h3, k2 ρ, ?_, ?_⟩
      · show (do pure (.value (← Instr.alloc t true (.tuple #[]))) : Sem Next).run P w = _
        refine run_val ?_
        unfold Instr.alloc
        rw [runB k1]
        rfl
      · intro ρ' sz hp
        rw [h2]
        exact ⟨_, hp, rfl⟩
    · cases hci
  | box t x =>
    simp only [opP] at hci
    obtain ⟨y, hx, rfl⟩ := Option.map_eq_some_iff.1 hci
    obtain ⟨u, hu, g1⟩ := bindO hev
    obtain ⟨q, hq, e⟩ := bindO g1
    cases e
    obtain ⟨tr, h1, h2, h3⟩ := row_at hq
    refine ⟨u.cells, tr, (a.eval x).cells, t, .pointer (some ⟨w.heap.size, 0, none⟩), h1, h3, (E.opd hx hu).cells (row_isList hq), ?_, ?_⟩
    · rfl
    · intro ρ' sz hp
      rw [h2]
      exact ⟨_, hp, rfl⟩
  | buildSlice t len ps =>
    simp only [opP] at hci
    split at hci
    · rename_i e hu
      split at hci
      · rename_i z n hz hn
        split at hci
        · cases hci
        · rename_i hc
          simp only [not_or, Nat.not_lt] at hc
          simp only [Option.map_eq_some_iff] at hci
          obtain ⟨qs, hqs, rfl⟩ := hci
          simp only [CI.ev] at hev
          obtain ⟨cs, hcs, hev⟩ := bindO hev
          split at hev
          · cases hev
          · rename_i hlen
            obtain ⟨q, hq, e1⟩ := bindO hev
            cases e1
            obtain ⟨tr, g1, g2, g3⟩ := row_at hq
            obtain ⟨u, m, h1, h2, h3, h4, h5, h6⟩ := zeroCells_run hz w
            rw [hn] at h3; cases h3
            have hn0 : 0 < u.cells.size := by rw [h6]; omega
            have hzr : RX ρ (repl z len) ((Array.range (len * n)).map (u.cells[· % u.cells.size]!)).toList := by
              rw [← h6, zeros_list hn0]
              exact repl_rel (h2 ρ) h5 len
            obtain ⟨cs', q1, q2, q3, q4⟩ := fill_rel E.F E.L E.H.globals ps.toList qs (repl z len) cs _ hqs hcs hzr (repl_len z h5 len).2
            refine ⟨cs, tr, cs', e, .slice (some ⟨w.heap.size, 0, none⟩) len len, g1, g3, q2, ?_, ?_⟩
            · show (do pure (.value (← Instr.buildSlice t len (ps.map fun (i, x) => (i, a.eval x)))) : Sem Next).run P w = _
              refine run_val ?_
              rw [pairs_pv]
              unfold Instr.buildSlice
              rw [runB (run_underlying hu w)]
              simp only
              rw [runB (run_sizeOf hn w)]
              rw [if_neg (by omega)]
              by_cases hl : len * n = 0
              · have hl0 : len = 0 := by
                  rcases Nat.mul_eq_zero.1 hl with h | h
                  · exact h
                  · omega
                subst hl0
                rw [if_pos hl]
                have hz0 : ∀ zs : Array Value, (Array.range (0 * n)).map (zs[· % zs.size]!) = #[] := fun zs => by simp
                rw [hz0] at q1
                rw [runB (runP P _ w)]
                simp only [hz0, toList_pv, q1]
                rfl
              · rw [if_neg hl]
                rw [runB h1, runB (runP P _ w)]
                simp only [toList_pv, q1]
                rfl
            · intro ρ' sz hp
              rw [g2]
              exact ⟨_, hp, Nat.le_refl _, rfl⟩
      · cases hci
    · cases hci
  | call c =>
    exfalso
    simp only [opP] at hci
    unfold callP at hci
    repeat' (first | cases hci | split at hci)
    all_goals first
      | (cases hf; done)
      | (simp only [Option.map_eq_some_iff] at hci; obtain ⟨_, _, e⟩ := hci; subst e; cases hf)
  | binOp op t x y t' =>
    exfalso
    simp only [opP] at hci
    unfold binP ifacesP at hci
    repeat' (first | cases hci | split at hci)
    all_goals cases hf
  | _ =>
    exfalso
    simp only [opP] at hci
    repeat' (first | cases hci | split at hci)
    all_goals first
      | (cases hf; done)
      | (simp only [Option.map_eq_some_iff] at hci; obtain ⟨_, _, e⟩ := hci; subst e; cases hf)

/-! Operands. -/
theorem opds_congr : ∀ {xs : List Operand}, (∀ x ∈ xs, opd C' ns' x = opd C ns x) → opds C' ns' xs = opds C ns xs := by
  intro xs
  induction xs with
  | nil => intro _; rfl
  | cons x r ih => intro h; simp only [opds]; rw [h x (by simp), ih fun y hy => h y (by simp [hy])]

theorem partsP_congr {place : Nat → Option (Nat × Nat)} : ∀ {ps : List (Nat × Operand)}, (∀ x ∈ ps.map (·.2), opd C' ns' x = opd C ns x) → partsP C' place ns' ps = partsP C place ns ps := by
  intro ps
  induction ps with
  | nil => intro _; rfl
  | cons p r ih =>
    intro h
    obtain ⟨i, x⟩ := p
    simp only [partsP]
    rw [h x (by simp), ih fun y hy => h y (by simp at hy ⊢; exact .inr hy)]

theorem opP_congr {op : Op} (h : ∀ x ∈ op.operands, opd C' ns' x = opd C ns x) : opP P C' ns' op = opP P C ns op := by
  cases op with
  | call c =>
    obtain ⟨cal, args, ats⟩ := c
    simp only [Op.operands, Call.operands] at h
    have hargs : opds C' ns' args.toList = opds C ns args.toList := opds_congr fun x hx => h x (by simp at hx ⊢; exact .inr hx)
    simp only [opP]
    unfold callP
    cases cal with
    | value f =>
      have hf : opd C' ns' f = opd C ns f := h f (by simp)
      cases f with
      | func f =>
        have e : ∀ l : List Operand, (∀ x ∈ l, opd C' ns' x = opd C ns x) →
            (match l with | [x, y] => (match opd C' ns' x, opd C' ns' y with | some a, some b => some (CI.idxByte a b) | _, _ => none) | _ => none : Option CI) =
            (match l with | [x, y] => (match opd C ns x, opd C ns y with | some a, some b => some (CI.idxByte a b) | _, _ => none) | _ => none) := by
          intro l hl
          split
          · rename_i x y
            simp only [hl x (by simp), hl y (by simp)]
          · rfl
        have := e args.toList fun x hx => h x (by simp at hx ⊢; exact .inr hx)
        simp only [hargs]
        split
        · split
          · rfl
          · split
            · exact this
            · rfl
        · rfl
      | _ => simp only [hargs, hf]
    | invoke r m => rfl
    | builtin b =>
      have one : ∀ x ∈ args.toList, opd C' ns' x = opd C ns x := fun x hx => h x (by simp at hx ⊢; exact hx)
      simp only
      generalize ats.toList = tl
      have two : ∀ x y, args.toList = [x, y] → opd C' ns' x = opd C ns x ∧ opd C' ns' y = opd C ns y := fun x y h => ⟨one x (by rw [h]; simp), one y (by rw [h]; simp)⟩
      have sng : ∀ x, args.toList = [x] → opd C' ns' x = opd C ns x := fun x h => one x (by rw [h]; simp)
      generalize args.toList = al at *
      split
      · rename_i x y t u tr
        simp only [(two x y rfl).1, (two x y rfl).2]
      · rename_i x t tr
        simp only [sng x rfl]
      · rename_i x t tr
        simp only [sng x rfl]
      · rename_i x y t u tr
        simp only [(two x y rfl).1, (two x y rfl).2]
      · rename_i x t tr
        simp only [sng x rfl]
      · rename_i x y t tr
        simp only [(two x y rfl).1, (two x y rfl).2]
      · rename_i x y t tr
        simp only [(two x y rfl).1, (two x y rfl).2]
      · rename_i x y t tr
        simp only [(two x y rfl).1, (two x y rfl).2]
      · rfl
  | build t ps =>
    simp only [Op.operands] at h
    simp only [opP]
    have := fun place => partsP_congr (C := C) (C' := C') (ns := ns) (ns' := ns') (place := place) (ps := ps.toList) fun x hx => h x (by simpa using hx)
    simp only [this]
  | buildSlice t n ps =>
    simp only [Op.operands] at h
    simp only [opP]
    have := fun place => partsP_congr (C := C) (C' := C') (ns := ns) (ns' := ns') (place := place) (ps := ps.toList) fun x hx => h x (by simpa using hx)
    simp only [this]
  | makeFunc f x y =>
    simp only [Op.operands] at h
    simp only [opP]
    rw [opds_congr (xs := x.toList) fun z hz => h z (by simp at hz ⊢; exact .inl hz), opds_congr (xs := y.toList) fun z hz => h z (by simp at hz ⊢; exact .inr hz)]
  | makeMap t r => rfl
  | slice t x lo hi mx =>
    simp only [Op.operands] at h
    simp only [opP]
    have h0 := h x (by simp)
    have h1 : opdO C' ns' lo = opdO C ns lo := by
      cases lo with
      | none => rfl
      | some l => simp only [opdO]; rw [h l (by simp)]
    have h2 : opdO C' ns' hi = opdO C ns hi := by
      cases hi with
      | none => rfl
      | some l => simp only [opdO]; rw [h l (by simp)]
    have h3 : opdO C' ns' mx = opdO C ns mx := by
      cases mx with
      | none => rfl
      | some l => simp only [opdO]; rw [h l (by simp)]
    rw [h0, h1, h2, h3]
  | _ =>
    simp only [Op.operands] at h
    simp only [opP]
    try rw [h _ (by simp)]
    try rw [h _ (List.mem_toArray.2 (List.mem_cons_of_mem _ (List.mem_cons_self ..)))]
    try rw [h _ (List.mem_toArray.2 (List.mem_cons_of_mem _ (List.mem_cons_of_mem _ (List.mem_cons_self ..))))]

end
end Go.Dx
