/-
  Comparing: '==' of each kind that the deterministic semantics compares, and a map's keys.
-/
import Derived.Test.YtpmfhinbmnaomaaGreatDoorDxText
set_option linter.unusedSimpArgs false
set_option linter.unusedVariables false
set_option linter.unusedSectionVars false
namespace Go.Dx

section
variable {P : Program} {ng : Nat} {ρ : Ren} {H : Heap} {w : World}

theorem eqLeaf_rel {k : LK} {u u' : AV} {x y : Value} {b : Bool} {t : TypeId} (hk : leafP P t = some k) (hx : RX ρ u [x]) (hy : RX ρ u' [y]) (h : eqLeaf k u u' = some b) (d : Nat) (w : World) :
    (Op.equalIn (d + 1) t x y).run P w = .ok b w := by
  unfold leafP at hk
  unfold eqLeaf at h
  split at h
  · split at h
    · rename_i c a c' b' hc
      subst hc
      cases h
      obtain ⟨_, rfl⟩ := hx.int_eq
      obtain ⟨_, rfl⟩ := hy.int_eq
      split at hk <;> cases hk
      rename_i hu
      exact run_equalIn_int w d t _ _ _ _ hu
    · cases h
  · cases h
    obtain ⟨h1, rfl⟩ := hx.str_eq
    obtain ⟨h2, rfl⟩ := hy.str_eq
    split at hk <;> cases hk
    rename_i hu
    rw [run_equalIn_string w d t _ _ hu, eq_text h1 h2]
  · cases h
    rw [hx.bool_eq, hy.bool_eq]
    split at hk <;> cases hk
    rename_i hu
    exact run_equalIn_bool' w d t _ _ hu
  · split at h
    · rename_i hc
      subst hc
      cases h
      obtain ⟨rfl, n, rfl⟩ := hx.sym_same hy
      split at hk <;> cases hk
      rename_i hu
      rw [run_equalIn_int w d t _ _ _ _ hu]
      simp
    · cases h
  · cases h

theorem leaf_isAgg {k : LK} {t : TypeId} (hk : leafP P t = some k) : isAggP P t = some false := by
  unfold leafP at hk
  unfold isAggP
  split at hk <;> first | (cases hk; done) | (rename_i hu; rw [hu])

theorem run_part1 {t : TypeId} {xs : Array Value} {o : Nat} {x : Value} (ht : isAggP P t = some false) (hx : xs[o]? = some x) (w : World) : (part t xs o).run P w = .ok x w := by
  unfold part
  rw [runB (run_isAgg ht w)]
  simp only [Bool.false_eq_true, if_false, hx]
  rfl

theorem eqFlat_nil {u u' : AV} {b : Bool} (h : eqFlat [] u u' = some b) : b = true := by
  cases u <;> cases u' <;> simp [eqFlat] at h
  exact h
theorem eqFlat_cons {k : LK} {ks : List LK} {u u' : AV} {b : Bool} (h : eqFlat (k :: ks) u u' = some b) :
    ∃ a r c s, u = .cons a r ∧ u' = .cons c s ∧ ((eqLeaf k a c = some true ∧ eqFlat ks r s = some b) ∨ (eqLeaf k a c = some false ∧ b = false)) := by
  cases u <;> cases u' <;> simp only [eqFlat] at h <;> try (cases h; done)
  rename_i a r c s
  refine ⟨a, r, c, s, rfl, rfl, ?_⟩
  split at h
  · rename_i e; exact .inl ⟨e, h⟩
  · rename_i e; cases h; exact .inr ⟨e, rfl⟩
  · cases h

theorem eqFlat_rel : ∀ (fs : List Field) (off : Nat) (ks : List LK) (u u' : AV) (xs ys : Array Value) (b : Bool) (d : Nat) (w : World), flatP P fs off = some ks → eqFlat ks u u' = some b →
    RX ρ u (xs.toList.drop off) → RX ρ u' (ys.toList.drop off) → (Op.eqFields (d + 1) xs ys fs).run P w = .ok b w := by
  intro fs
  induction fs with
  | nil =>
    intro off ks u u' xs ys b d w hf he _ _
    simp [flatP] at hf
    subst hf
    rw [eqFlat_nil he]
    rfl
  | cons f fs ih =>
    intro off ks u u' xs ys b d w hf he hx hy
    simp only [flatP] at hf
    split at hf
    · cases hf
    · rename_i hc
      simp only [not_or, Decidable.not_not] at hc
      obtain ⟨hn, ho, hs⟩ := hc
      split at hf
      · cases hf
      · rename_i k hk
        split at hf
        · cases hf
        · rename_i ks' hks
          cases hf
          obtain ⟨a, r, c, s, e1, e2, hq⟩ := eqFlat_cons he
          subst e1 e2
          obtain ⟨x, xr, ex, hxa, hxr⟩ := hx
          obtain ⟨y, yr, ey, hya, hyr⟩ := hy
          have gx : xs[off]? = some x := by
            have := congrArg (·[0]?) ex
            simpa [List.getElem?_drop] using this
          have gy : ys[off]? = some y := by
            have := congrArg (·[0]?) ey
            simpa [List.getElem?_drop] using this
          have dx : xr = xs.toList.drop (off + 1) := by
            have := congrArg (List.drop 1) ex
            simpa [List.drop_drop, Nat.add_comm] using this.symm
          have dy : yr = ys.toList.drop (off + 1) := by
            have := congrArg (List.drop 1) ey
            simpa [List.drop_drop, Nat.add_comm] using this.symm
          have hagg := leaf_isAgg hk
          simp only [Op.eqFields]
          rw [if_pos hn, ho]
          rw [runB (run_part1 hagg gx w), runB (run_part1 hagg gy w)]
          rcases hq with ⟨hb, hq⟩ | ⟨hb, hf⟩
          · rw [runB (eqLeaf_rel hk hxa hya hb d w)]
            simp only [Bool.not_true, Bool.false_eq_true, if_false]
            exact ih (off + 1) ks' r s xs ys b d w hks hq (dx ▸ hxr) (dy ▸ hyr)
          · rw [runB (eqLeaf_rel hk hxa hya hb d w), hf]
            rfl

/-- Structs that are flat. -/
theorem eqFlatT_rel {t : TypeId} {ks : List LK} {u u' : AV} {xs ys : Array Value} {b : Bool} (hk : flatT P t = some ks) (hx : RX ρ u xs.toList) (hy : RX ρ u' ys.toList) (h : eqFlat ks u u' = some b) (d : Nat) (w : World) :
    (Op.equalIn (d + 2) t (.agg xs) (.agg ys)).run P w = .ok b w := by
  unfold flatT at hk
  split at hk
  · rename_i fs hu
    split at hk
    · cases hk
    · rename_i hc
      simp only [not_or, Bool.not_eq_true] at hc
      have hf : P.fieldsOf t = fs := by unfold Program.fieldsOf; rw [hu]
      rw [run_equalIn_agg w (d + 1) t xs ys (by rw [hf]; exact hu) hc.1, hf]
      exact eqFlat_rel fs.toList 0 ks u u' xs ys b d w hk h (by simpa using hx) (by simpa using hy)
  · cases hk

theorem flat_eqGuard {t : TypeId} {ks : List LK} (hk : flatT P t = some ks) : P.eqGuardType P.depth t = false := by
  unfold flatT at hk
  split at hk
  · split at hk
    · cases hk
    · rename_i hc
      simp only [not_or, Bool.not_eq_true] at hc
      exact hc.2
  · cases hk

theorem run_sameAddr (hH : HRel P ng ρ H w) {p q : Pos} {o u : Nat} {L M : Loc} (hL : ρ p = some L) (hM : ρ q = some M) {b : Bool}
    (h : (if p = q then some (o == u) else if H.closed p && H.closed q then some false else none) = some b) :
    (sameAddr ⟨L.b, L.base + o, none⟩ ⟨M.b, M.base + u, none⟩).run P w = .ok b w := by
  split at h
  · rename_i e
    subst e
    rw [hL] at hM; cases hM; cases h
    unfold sameAddr
    simp only [beq_self_eq_true, if_true]
    show (pure _ : Sem Bool).run P w = _
    rw [runP]
    congr 1
    rw [Bool.eq_iff_iff]
    simp
  · rename_i e
    split at h
    · rename_i hc
      cases h
      simp only [Bool.and_eq_true] at hc
      have key : ∀ {r : Pos} {N : Loc}, H.closed r = true → ρ r = some N → ∃ c e fr, w.heap[N.b]? = some (.cells c e fr) ∧ ∀ i, (fr.1 ≤ i && i < fr.2) = false := by
        intro r N hr hN
        unfold Heap.closed at hr
        split at hr
        · rename_i t n ho
          obtain ⟨c, e, fr, h1, _, _, h4, _⟩ := hH.row ho hN
          exact ⟨c, e, fr, h1, (h4 rfl).2.2⟩
        · cases hr
      have live : ∀ {r : Pos}, H.closed r = true → H.live r = true := by
        intro r hr
        unfold Heap.closed at hr
        split at hr
        · rename_i t n ho; exact live_of_get ho (by simp)
        · cases hr
      obtain ⟨c1, e1, f1, b1, z1⟩ := key hc.1 hL
      obtain ⟨c2, e2, f2, b2, z2⟩ := key hc.2 hM
      have hne : L.b ≠ M.b := fun eb => e (hH.inj p q L M (live hc.1) (live hc.2) hL hM eb)
      have fz : ∀ {bb o : Nat} {c : Array Value} {e : TypeId} {fr : Nat × Nat}, w.heap[bb]? = some (.cells c e fr) → (∀ i, (fr.1 ≤ i && i < fr.2) = false) → w.frozen? ⟨bb, o, none⟩ = false := by
        intro bb o c e fr hb hz
        unfold World.frozen?
        simp [hb]
        simpa using hz o
      have sh : ∀ {bb : Nat} {c : Array Value} {e : TypeId} {fr : Nat × Nat}, w.heap[bb]? = some (.cells c e fr) → w.shape? bb = some (e, c.size) := by
        intro bb c e fr hb
        unfold World.shape?
        simp [hb]
      have rf : ∀ (x : Addr), (frozen x).run P w = .ok (w.frozen? x) w := fun x => rfl
      have rs : ∀ (r : Nat), (shape r).run P w = .ok (w.shape? r) w := fun r => rfl
      have nv : ∀ {x : Addr} {c : Array Value} {e : TypeId} {fr : Nat × Nat}, w.heap[x.block]? = some (.cells c e fr) → (noView x).run P w = .ok () w := by
        intro x c e fr hb
        unfold noView
        have h2 : (viewAt x.block).run P w = .ok none w := by
          unfold viewAt
          rw [runB (rs x.block), sh hb]; rfl
        rw [runB h2]; rfl
      have st : ∀ {x : Addr} {c : Array Value} {e : TypeId} {fr : Nat × Nat}, x.spot = none → w.heap[x.block]? = some (.cells c e fr) → (∀ i, (fr.1 ≤ i && i < fr.2) = false) → (stringish x).run P w = .ok false w := by
        intro x c e fr hsp hb hz
        obtain ⟨xb, xo, xs⟩ := x
        cases hsp
        unfold stringish
        rw [runB (rf _), fz hb hz]
        simp only [Bool.false_eq_true, if_false]
        rw [runB (rs _), sh hb]
        show (frozen _).run P w = _
        rw [rf, fz hb hz]
      unfold sameAddr
      have hbeq : ((⟨L.b, L.base + o, none⟩ : Addr).block == (⟨M.b, M.base + u, none⟩ : Addr).block) = false := by simpa using hne
      simp only [hbeq, Bool.false_eq_true, if_false]
      rw [runB (rf _), fz b1 z1, runB (rf _), fz b2 z2]
      simp only [Bool.and_self, Bool.false_eq_true, if_false]
      rw [runB (nv b1), runB (nv b2)]
      have m : (mayBeOne ⟨L.b, L.base + o, none⟩ ⟨M.b, M.base + u, none⟩).run P w = .ok false w := by
        unfold mayBeOne
        rw [runB (st rfl b1 z1), runB (st rfl b2 z2)]
        rfl
      rw [runB m]
      rfl
    · cases h

def EqDesc (P : Program) (t : TypeId) : EK → Prop
  | .leaf l => leafP P t = some l
  | .ptr => ∃ e, P.underlying t = some (.pointer e) ∧ (sizeP P e).getD 0 ≠ 0
  | .slice => ∃ e, P.underlying t = some (.slice e)
  | .map => ∃ k e, P.underlying t = some (.map k e)
  | .func => ∃ a r v, P.underlying t = some (.func a r v)
  | .iface => ∃ ms, P.underlying t = some (.interface ms)
  | .ifaces => ∃ ms, P.underlying t = some (.interface ms)
  | .flat ks => flatT P t = some ks ∧ ∃ fs, P.underlying t = some (.struct fs)

theorem eqP_desc {t : TypeId} {k : EK} (h : eqP P t = some k) : EqDesc P t k := by
  unfold eqP at h
  split at h
  · rename_i l hl; cases h; exact hl
  · split at h
    · rename_i e hu
      split at h
      · cases h
      · rename_i hz; cases h; exact ⟨e, hu, hz⟩
    · rename_i e hu; cases h; exact ⟨e, hu⟩
    · rename_i a b hu; cases h; exact ⟨a, b, hu⟩
    · rename_i a b c hu; cases h; exact ⟨a, b, c, hu⟩
    · rename_i ms hu; cases h; exact ⟨ms, hu⟩
    · rename_i fs hu
      simp only [Option.map_eq_some_iff] at h
      obtain ⟨ks, hks, rfl⟩ := h
      exact ⟨hks, fs, hu⟩
    · cases h

/-- What a comparison of two values of a type comes to. -/
theorem run_equal {t : TypeId} {k : EK} (hd : EqDesc P t k) (hH : HRel P ng ρ H w) {u u' : AV} {x y : Value} {b : Bool} (hx : RX ρ u [x]) (hy : RX ρ u' [y]) (h : eqA H k u u' = some b) :
    (Op.equal t x y).run P w = .ok b w := by
  have pb : ∀ z : Bool, (pure z : Sem Bool).run P w = .ok z w := fun z => rfl
  unfold eqA at h
  split at h
  · exact eqLeaf_rel hd hx hy h 9999 w
  · obtain ⟨xs, rfl, _, h1⟩ := hx.agg_eq
    obtain ⟨ys, rfl, _, h2⟩ := hy.agg_eq
    exact eqFlatT_rel hd.1 h1 h2 h 9998 w
  · cases h; cases hx; cases hy; obtain ⟨e, hu, _⟩ := hd
    unfold Op.equal Op.maxDepth Op.equalIn; rw [runB (run_underlying hu w)]; rfl
  · cases h; cases hx; obtain ⟨L, _, rfl⟩ := hy.ptr_eq; obtain ⟨e, hu, _⟩ := hd
    unfold Op.equal Op.maxDepth Op.equalIn; rw [runB (run_underlying hu w)]; rfl
  · cases h; cases hy; obtain ⟨L, _, rfl⟩ := hx.ptr_eq; obtain ⟨e, hu, _⟩ := hd
    unfold Op.equal Op.maxDepth Op.equalIn; rw [runB (run_underlying hu w)]; rfl
  · obtain ⟨L, hL, rfl⟩ := hx.ptr_eq; obtain ⟨M, hM, rfl⟩ := hy.ptr_eq; obtain ⟨e, hu, hz⟩ := hd
    have hs := run_sameAddr (P := P) hH hL hM h
    unfold Op.equal Op.maxDepth Op.equalIn
    rw [runB (run_underlying hu w)]
    show (sizeOf e >>= _).run P w = _
    cases hsz : sizeP P e with
    | none => rw [hsz] at hz; exact absurd rfl hz
    | some n =>
      rw [hsz] at hz
      rw [runB (run_sizeOf hsz w)]
      simp only [ne_eq]
      rw [if_pos (by simpa using hz)]
      exact hs
  · cases h; cases hx; cases hy; obtain ⟨e, hu⟩ := hd
    unfold Op.equal Op.maxDepth Op.equalIn; rw [runB (run_underlying hu w)]; rfl
  · cases h; cases hx; obtain ⟨L, _, _, rfl⟩ := hy.slice_eq; obtain ⟨e, hu⟩ := hd
    unfold Op.equal Op.maxDepth Op.equalIn; rw [runB (run_underlying hu w)]; rfl
  · cases h; cases hx; obtain ⟨e, hu⟩ := hd
    obtain ⟨L, _, hy⟩ := hy
    rcases hy with ⟨_, _, _, e⟩ | ⟨_, _, _, e⟩ <;> cases e <;>
      (unfold Op.equal Op.maxDepth Op.equalIn; rw [runB (run_underlying hu w)]; rfl)
  · cases h; cases hy; obtain ⟨L, _, _, rfl⟩ := hx.slice_eq; obtain ⟨e, hu⟩ := hd
    unfold Op.equal Op.maxDepth Op.equalIn; rw [runB (run_underlying hu w)]; rfl
  · cases h; cases hy; obtain ⟨e, hu⟩ := hd
    obtain ⟨L, _, hx⟩ := hx
    rcases hx with ⟨_, _, _, e⟩ | ⟨_, _, _, e⟩ <;> cases e <;>
      (unfold Op.equal Op.maxDepth Op.equalIn; rw [runB (run_underlying hu w)]; rfl)
  · cases h; cases hx; cases hy; obtain ⟨_, _, hu⟩ := hd
    unfold Op.equal Op.maxDepth Op.equalIn; rw [runB (run_underlying hu w)]; rfl
  · cases h; cases hx; obtain ⟨L, _, rfl⟩ := hy.map_eq; obtain ⟨_, _, hu⟩ := hd
    unfold Op.equal Op.maxDepth Op.equalIn; rw [runB (run_underlying hu w)]; rfl
  · cases h; cases hy; obtain ⟨L, _, rfl⟩ := hx.map_eq; obtain ⟨_, _, hu⟩ := hd
    unfold Op.equal Op.maxDepth Op.equalIn; rw [runB (run_underlying hu w)]; rfl
  · cases h; cases hx; cases hy; obtain ⟨_, _, _, hu⟩ := hd
    unfold Op.equal Op.maxDepth Op.equalIn; rw [runB (run_underlying hu w)]; rfl
  · cases h; cases hx; obtain ⟨_, _, _, _, e, _⟩ := hy; cases e; obtain ⟨_, _, _, hu⟩ := hd
    unfold Op.equal Op.maxDepth Op.equalIn; rw [runB (run_underlying hu w)]; rfl
  · cases h; cases hy; obtain ⟨_, _, _, _, e, _⟩ := hx; cases e; obtain ⟨_, _, _, hu⟩ := hd
    unfold Op.equal Op.maxDepth Op.equalIn; rw [runB (run_underlying hu w)]; rfl
  · cases h; cases hx; cases hy; obtain ⟨_, hu⟩ := hd
    unfold Op.equal Op.maxDepth Op.equalIn; rw [runB (run_underlying hu w)]; rfl
  · cases h; cases hx; obtain ⟨_, rfl, _⟩ := hy.iface_eq; obtain ⟨_, hu⟩ := hd
    unfold Op.equal Op.maxDepth Op.equalIn; rw [runB (run_underlying hu w)]; rfl
  · cases h; cases hy; obtain ⟨_, rfl, _⟩ := hx.iface_eq; obtain ⟨_, hu⟩ := hd
    unfold Op.equal Op.maxDepth Op.equalIn; rw [runB (run_underlying hu w)]; rfl
  · cases h; cases hx; obtain ⟨_, rfl, _⟩ := hy.iface_eq; obtain ⟨_, hu⟩ := hd
    unfold Op.equal Op.maxDepth Op.equalIn; rw [runB (run_underlying hu w)]; rfl
  · cases h; cases hy; obtain ⟨_, rfl, _⟩ := hx.iface_eq; obtain ⟨_, hu⟩ := hd
    unfold Op.equal Op.maxDepth Op.equalIn; rw [runB (run_underlying hu w)]; rfl
  · cases h

/-- The guard ahead of a comparison says nothing. -/
theorem run_guard {op : BinOp} {t : TypeId} {k : EK} (hd : EqDesc P t k) (ox oy : Operand) (hok : ifaceOk P t ox oy = true) {u u' : AV} {x y : Value} {b : Bool} (hx : RX ρ u [x]) (hy : RX ρ u' [y]) (h : eqA H k u u' = some b) :
    (eqGuard op t ox oy x y).run P w = .ok () w := by
  have pu : (pure () : Sem Unit).run P w = .ok () w := rfl
  by_cases hop : op = .eql ∨ op = .neq
  · by_cases hag : ∃ xs ys, x = .agg xs ∧ y = .agg ys
    · obtain ⟨xs, ys, rfl, rfl⟩ := hag
      have hks : ∃ ks, flatT P t = some ks := by
        unfold eqA at h
        split at h
        · unfold eqLeaf at h
          split at h
          · obtain ⟨_, e⟩ := hx; cases e
          · obtain ⟨_, e⟩ := hx; cases e
          · cases hx
          · obtain ⟨_, _, _, _, e⟩ := hx; cases e
          · cases h
        · exact ⟨_, hd.1⟩
        all_goals first
          | (cases hx; done)
          | (cases hy; done)
          | (obtain ⟨_, _, e⟩ := hx; cases e; done)
          | (obtain ⟨_, _, _, e⟩ := hx; cases e; done)
          | (obtain ⟨_, _, e⟩ := hx; rcases e with ⟨_, _, _, e⟩ | ⟨_, _, _, e⟩ <;> cases e; done)
          | (obtain ⟨_, _, _, _, e, _⟩ := hx; cases e; done)
          | (obtain ⟨_, e, _⟩ := hx; cases e; done)
          | (cases h; done)
      obtain ⟨ks, hks⟩ := hks
      exact run_eqGuard_agg w op t ox oy xs ys (flat_eqGuard hks)
    · by_cases hni : x = .nilIface ∧ y = .nilIface
      · obtain ⟨rfl, rfl⟩ := hni
        have hk : ∃ ms, P.underlying t = some (.interface ms) := by
          unfold eqA at h
          split at h
          · unfold eqLeaf at h
            split at h
            · obtain ⟨_, e⟩ := hx; cases e
            · obtain ⟨_, e⟩ := hx; cases e
            · cases hx
            · obtain ⟨_, _, _, _, e⟩ := hx; cases e
            · cases h
          all_goals first
            | (obtain ⟨_, e, _⟩ := hx; cases e; done)
            | (cases hx; done)
            | (obtain ⟨_, _, e⟩ := hx; cases e; done)
            | (obtain ⟨_, _, _, e⟩ := hx; cases e; done)
            | (obtain ⟨_, _, e⟩ := hx; rcases e with ⟨_, _, _, e⟩ | ⟨_, _, _, e⟩ <;> cases e; done)
            | (obtain ⟨_, _, _, _, e, _⟩ := hx; cases e; done)
            | exact hd
            | (cases h; done)
        obtain ⟨ms, hu⟩ := hk
        have main : ms.isEmpty = true → (do if ← Op.eqGuardIn Op.maxDepth t .nilIface .nilIface then unsupported (.noEntry "binop/eql: two nil values of an interface type with methods, neither of them the literal nil") : Sem Unit).run P w = .ok () w := by
          intro hms
          have hg : (Op.eqGuardIn Op.maxDepth t .nilIface .nilIface).run P w = .ok false w := by
            unfold Op.maxDepth Op.eqGuardIn
            rw [runB (run_underlying hu w)]
            show (pure (!ms.isEmpty) : Sem Bool).run P w = _
            rw [hms]; rfl
          rw [runB hg]
          rfl
        have hms : nilLit ox = false → nilLit oy = false → ms.isEmpty = true := by
          intro h1 h2
          unfold ifaceOk at hok
          rw [hu] at hok
          simpa [h1, h2] using hok
        rcases hop with rfl | rfl <;> cases ox <;> cases oy <;> first | rfl | exact main (hms rfl rfl)
      · rcases hop with rfl | rfl <;>
          (unfold eqGuard
           simp only [Bool.not_true, Bool.false_eq_true, if_false]
           split
           · exact absurd ⟨rfl, rfl⟩ hni
           · exact absurd ⟨_, _, rfl, rfl⟩ hag
           · rfl)
  · cases op <;> first | rfl | (exfalso; exact hop (.inl rfl)) | (exfalso; exact hop (.inr rfl))

end
end Go.Dx
set_option linter.unusedSimpArgs false
set_option linter.unusedVariables false
set_option linter.unusedSectionVars false
namespace Go.Dx

def KeyDesc (P : Program) (t : TypeId) : EK → Prop
  | .leaf l => leafP P t = some l
  | .flat ks => flatT P t = some ks ∧ ∃ fs, P.underlying t = some (.struct fs)
  | _ => False

section
variable {P : Program} {ρ : Ren} {w : World}

theorem keyP_desc {t : TypeId} {k : EK} (h : keyP P t = some k) : KeyDesc P t k := by
  unfold keyP at h
  split at h
  · rename_i l hl; cases h; exact hl
  · simp only [Option.map_eq_some_iff] at h
    obtain ⟨ks, hks, rfl⟩ := h
    refine ⟨hks, ?_⟩
    unfold flatT at hks
    split at hks
    · rename_i fs hu; exact ⟨fs, hu⟩
    · cases hks

theorem eqLeaf_same {k : LK} {u u' : AV} {x y : Value} (hx : RX ρ u [x]) (hy : RX ρ u' [y]) (h : eqLeaf k u u' = some true) : x = y ∧ ∀ n, Instr.sameBits n x y = true := by
  unfold eqLeaf at h
  split at h
  · split at h
    · rename_i hc
      subst hc
      simp only [Option.some.injEq, beq_iff_eq] at h
      subst h
      obtain ⟨_, rfl⟩ := hx.int_eq
      obtain ⟨_, rfl⟩ := hy.int_eq
      exact ⟨rfl, fun n => by cases n <;> simp [Instr.sameBits]⟩
    · cases h
  · simp only [Option.some.injEq, Bool.and_eq_true, beq_iff_eq] at h
    obtain ⟨rfl, rfl⟩ := h
    obtain ⟨_, rfl⟩ := hx.str_eq
    obtain ⟨_, rfl⟩ := hy.str_eq
    exact ⟨rfl, fun n => by cases n <;> simp [Instr.sameBits, beq_toListBytes]⟩
  · simp only [Option.some.injEq, beq_iff_eq] at h
    subst h
    rw [hx.bool_eq, hy.bool_eq]
    exact ⟨rfl, fun n => by cases n <;> simp [Instr.sameBits]⟩
  · split at h
    · rename_i hc
      subst hc
      obtain ⟨rfl, n, rfl⟩ := hx.sym_same hy
      exact ⟨rfl, fun n => by cases n <;> simp [Instr.sameBits]⟩
    · cases h
  · cases h

theorem eqFlat_same : ∀ (ks : List LK) (u u' : AV) (xs ys : List Value), eqFlat ks u u' = some true → RX ρ u xs → RX ρ u' ys → xs = ys ∧ ∀ n, ((xs.zip ys).all fun (x, y) => Instr.sameBits n x y) = true := by
  intro ks
  induction ks with
  | nil =>
    intro u u' xs ys h hx hy
    cases u <;> cases u' <;> simp [eqFlat] at h
    cases hx; cases hy
    exact ⟨rfl, fun n => rfl⟩
  | cons k ks ih =>
    intro u u' xs ys h hx hy
    obtain ⟨a, r, c, s, e1, e2, hq⟩ := eqFlat_cons h
    subst e1 e2
    obtain ⟨x, xr, ex, hxa, hxr⟩ := hx
    obtain ⟨y, yr, ey, hya, hyr⟩ := hy
    rcases hq with ⟨hb, hq⟩ | ⟨_, hf⟩
    · obtain ⟨e, sb⟩ := eqLeaf_same hxa hya hb
      obtain ⟨e', sb'⟩ := ih r s xr yr hq hxr hyr
      rw [ex, ey, e, e']
      refine ⟨rfl, fun n => ?_⟩
      have h1 := sb n
      have h2 := sb' n
      rw [e] at h1
      rw [e'] at h2
      simp only [List.zip_cons_cons, List.all_cons, h1, Bool.true_and]
      exact h2
    · cases hf

theorem eqKey_same {k : EK} {u u' : AV} {x y : Value} (hx : RX ρ u [x]) (hy : RX ρ u' [y]) (h : eqKey k u u' = some true) : x = y ∧ Instr.sameBits 10000 x y = true := by
  unfold eqKey at h
  split at h
  · obtain ⟨h1, h2⟩ := eqLeaf_same hx hy h; exact ⟨h1, h2 _⟩
  · split at h
    · obtain ⟨xs, rfl, _, h1⟩ := hx.agg_eq
      obtain ⟨ys, rfl, _, h2⟩ := hy.agg_eq
      obtain ⟨e, sb⟩ := eqFlat_same _ _ _ _ _ h h1 h2
      have ea : xs = ys := by rw [← Array.toArray_toList (xs := xs), e, Array.toArray_toList]
      refine ⟨by rw [ea], ?_⟩
      unfold Instr.sameBits
      have := sb 9999
      subst ea
      simp only [beq_self_eq_true, Bool.true_and]
      exact this
    · cases h
  · cases h

/-- Comparing two keys. -/
theorem run_eqKey {t : TypeId} {k : EK} (hd : KeyDesc P t k) {u u' : AV} {x y : Value} {b : Bool} (hx : RX ρ u [x]) (hy : RX ρ u' [y]) (h : eqKey k u u' = some b) (w : World) :
    (Op.equal t x y).run P w = .ok b w := by
  unfold eqKey at h
  split at h
  · exact eqLeaf_rel hd hx hy h 9999 w
  · split at h
    · obtain ⟨xs, rfl, _, h1⟩ := hx.agg_eq
      obtain ⟨ys, rfl, _, h2⟩ := hy.agg_eq
      exact eqFlatT_rel hd.1 h1 h2 h 9998 w
    · cases h
  · cases h

theorem sameNow_leaf {t : TypeId} {l : LK} (hd : leafP P t = some l) {u u' : AV} {x y : Value} {b : Bool} (hx : RX ρ u [x]) (hy : RX ρ u' [y]) (h : eqLeaf l u u' = some b) :
    ∃ d, P.underlying t = some d ∧ Instr.sameNow d x y = some b := by
  unfold leafP at hd
  unfold eqLeaf at h
  split at h
  · split at h
    · rename_i c a c' b' hc
      subst hc
      cases h
      obtain ⟨_, rfl⟩ := hx.int_eq
      obtain ⟨_, rfl⟩ := hy.int_eq
      split at hd <;> cases hd
      rename_i hu
      exact ⟨_, hu, by simp [Instr.sameNow]⟩
    · cases h
  · cases h
    obtain ⟨h1, rfl⟩ := hx.str_eq
    obtain ⟨h2, rfl⟩ := hy.str_eq
    split at hd <;> cases hd
    rename_i hu
    refine ⟨_, hu, ?_⟩
    simp only [Instr.sameNow]
    rw [beq_toListBytes, eq_text h1 h2]
  · cases h
    rw [hx.bool_eq, hy.bool_eq]
    split at hd <;> cases hd
    rename_i hu
    exact ⟨_, hu, rfl⟩
  · split at h
    · rename_i hc
      subst hc
      cases h
      obtain ⟨rfl, n, rfl⟩ := hx.sym_same hy
      split at hd <;> cases hd
      rename_i hu
      exact ⟨_, hu, by simp [Instr.sameNow]⟩
    · cases h
  · cases h

/-- What finding a key comes to: the place of the first entry that has it. -/
def firstAt (k : EK) (x : AV) : ME → Option (Option Nat)
  | .nil => some none
  | .cons y _ _ r =>
    match eqKey k x y with
    | some true => some (some 0)
    | some false => (firstAt k x r).map fun o => o.map (· + 1)
    | none => none

def valAt (es : List MapEntry) (i : Nat) : Option Nat → Option (Nat × Value)
  | none => none
  | some j => (es[j]?).map fun e => (i + j, e.val)

theorem run_findAsking {t : TypeId} {k : EK} (hd : KeyDesc P t k) {x : AV} {kx : Value} (hx : RX ρ x [kx]) : ∀ (m : ME) (es : List MapEntry) (i : Nat) (o : Option Nat), MR ρ m es → firstAt k x m = some o →
    (Instr.findAsking t kx es i).run P w = .ok (valAt es i o) w ∧ (∀ j, o = some j → j < es.length ∧ ∃ e, es[j]? = some e ∧ e.key = kx ∧ Instr.sameBits 10000 e.key kx = true) := by
  intro m
  induction m with
  | nil => intro es i o hm ho; cases hm; simp [firstAt] at ho; subst ho; exact ⟨rfl, fun j hj => by cases hj⟩
  | cons y v b r ih =>
    intro es i o hm ho
    obtain ⟨e, es', rfl, h1, h2, h3, h4⟩ := hm
    simp only [firstAt] at ho
    split at ho
    · rename_i he
      cases ho
      obtain ⟨e1, e2⟩ := eqKey_same hx h1 he
      refine ⟨?_, ?_⟩
      · unfold Instr.findAsking
        rw [runB (run_eqKey hd hx h1 he w)]
        rfl
      · intro j hj
        cases hj
        exact ⟨by simp, e, rfl, e1.symm, by rw [← e1] at e2 ⊢; exact e2⟩
    · rename_i he
      simp only [Option.map_eq_some_iff] at ho
      obtain ⟨o', ho', rfl⟩ := ho
      obtain ⟨r1, r2⟩ := ih es' (i + 1) o' h4 ho'
      refine ⟨?_, ?_⟩
      · unfold Instr.findAsking
        rw [runB (run_eqKey hd hx h1 he w)]
        simp only [Bool.false_eq_true, if_false]
        rw [r1]
        cases o' with
        | none => rfl
        | some j => simp only [valAt, Option.map_some, List.getElem?_cons_succ]; congr 2; funext e; simp; omega
      · intro j hj
        cases o' with
        | none => cases hj
        | some j' =>
          cases hj
          obtain ⟨q1, e', q2, q3⟩ := r2 j' rfl
          exact ⟨by simp; omega, e', by simpa using q2, q3⟩
    · cases ho

theorem findNow_leaf {t : TypeId} {l : LK} (hd : leafP P t = some l) {d : TypeDesc} (hu : P.underlying t = some d) {x : AV} {kx : Value} (hx : RX ρ x [kx]) : ∀ (m : ME) (es : List MapEntry) (i : Nat) (o : Option Nat), MR ρ m es → firstAt (.leaf l) x m = some o →
    Instr.findNow d kx es i = some (valAt es i o) := by
  intro m
  induction m with
  | nil => intro es i o hm ho; cases hm; simp [firstAt] at ho; subst ho; rfl
  | cons y v b r ih =>
    intro es i o hm ho
    obtain ⟨e, es', rfl, h1, h2, h3, h4⟩ := hm
    simp only [firstAt] at ho
    split at ho
    · rename_i he
      cases ho
      obtain ⟨d', hu', hs⟩ := sameNow_leaf hd hx h1 he
      rw [hu] at hu'; cases hu'
      simp [Instr.findNow, hs, valAt]
    · rename_i he
      simp only [Option.map_eq_some_iff] at ho
      obtain ⟨o', ho', rfl⟩ := ho
      obtain ⟨d', hu', hs⟩ := sameNow_leaf hd hx h1 he
      rw [hu] at hu'; cases hu'
      simp only [Instr.findNow, hs]
      rw [ih es' (i + 1) o' h4 ho']
      cases o' with
      | none => rfl
      | some j => simp only [valAt, Option.map_some, List.getElem?_cons_succ]; congr 2; funext e; simp; omega
    · cases ho

theorem run_findKey {t : TypeId} {k : EK} (hd : KeyDesc P t k) {x : AV} {kx : Value} (hx : RX ρ x [kx]) {m : ME} {es : List MapEntry} {o : Option Nat} (hm : MR ρ m es) (ho : firstAt k x m = some o) (w : World) :
    (Instr.findKey t kx es).run P w = .ok (valAt es 0 o) w := by
  have ha := (run_findAsking (w := w) hd hx m es 0 o hm ho).1
  unfold Instr.findKey
  cases k with
  | leaf l =>
    have hd' : leafP P t = some l := hd
    have hu : ∃ d, P.underlying t = some d := by
      unfold leafP at hd'
      split at hd' <;> first | (cases hd'; done) | exact ⟨_, by assumption⟩
    obtain ⟨d, hu⟩ := hu
    rw [runB (run_underlying hu w), findNow_leaf hd' hu hx m es 0 o hm ho]
    rfl
  | flat ks =>
    obtain ⟨_, fs, hu⟩ := hd
    rw [runB (run_underlying hu w)]
    cases es with
    | nil =>
      cases m with
      | nil => simp [firstAt] at ho; subst ho; rfl
      | cons y v b r => obtain ⟨_, _, e, _⟩ := hm; cases e
    | cons e es' =>
      have : Instr.findNow (.struct fs) kx (e :: es') 0 = none := by
        simp only [Instr.findNow]
        have hn : ∀ a b, Instr.sameNow (.struct fs) a b = none := fun a b => by cases a <;> cases b <;> rfl
        rw [hn]
      rw [this]
      exact ha
  | _ => exact absurd hd (by simp [KeyDesc])

/-- Is a key one that can be one? -/
theorem run_checkLeaf {t : TypeId} {l : LK} (hd : leafP P t = some l) (e : Bool) (n : Nat) (kx : Value) (w : World) : (Instr.checkKey e (n + 1) t kx).run P w = .ok () w := by
  unfold leafP at hd
  unfold Instr.checkKey
  split at hd <;> first
    | (cases hd; done)
    | (rename_i hu; rw [runB (run_underlying hu w)]; rfl)

theorem run_checkFlat {t : TypeId} {fs : Array Field} {ks : List LK} (hu : P.underlying t = some (.struct fs)) (hf : flatP P fs.toList 0 = some ks) (e : Bool) (n : Nat) {xs : Array Value} (hl : ks.length ≤ xs.size) (w : World) :
    (Instr.checkKey e (n + 2) t (.agg xs)).run P w = .ok () w := by
  unfold Instr.checkKey
  rw [runB (run_underlying hu w)]
  simp only []
  rw [← Array.forIn_toList]
  have gen : ∀ (fs : List Field) (off : Nat) (ks : List LK), flatP P fs off = some ks → off + ks.length ≤ xs.size →
      (forIn fs PUnit.unit (fun f _ => if f.name ≠ "_" then do let a ← part f.type xs f.offset; Instr.checkKey e (n + 1) f.type a; pure (ForInStep.yield PUnit.unit) else pure (ForInStep.yield PUnit.unit)) : Sem PUnit).run P w = .ok PUnit.unit w := by
    intro fs
    induction fs with
    | nil => intro off ks _ _; rfl
    | cons f fs ih =>
      intro off ks hf hl
      simp only [flatP] at hf
      split at hf
      · cases hf
      · rename_i hc
        simp only [not_or, Decidable.not_not] at hc
        obtain ⟨hn, ho, hs⟩ := hc
        split at hf
        · cases hf
        · rename_i k hk
          split at hf
          · cases hf
          · rename_i ks' hks
            cases hf
            simp only [List.length_cons] at hl
            have gx : xs[f.offset]? = some xs[off] := by rw [ho]; simp
            rw [List.forIn_cons]
            simp only [ne_eq, hn, not_false_eq_true, if_true, Sem.run_bind, run_part1 (leaf_isAgg hk) gx w, Result.andThen_ok, run_checkLeaf hk e n _ w, Sem.run_pure]
            exact ih (off + 1) ks' hks (by omega)
  rw [runB (gen fs.toList 0 ks hf (by omega))]
  rfl

theorem eqFlat_len : ∀ (ks : List LK) (u u' : AV) (b : Bool), eqFlat ks u u' = some b → True := fun _ _ _ _ _ => trivial

/-- A key's form: as many leaves as its kind has. -/
theorem okFlat : ∀ (ks : List LK) (u : AV) (xs : List Value), (eqFlat ks u u).isSome = true → RX ρ u xs → (∀ k a, eqLeaf k a a ≠ some false) → ks.length = xs.length := by
  intro ks
  induction ks with
  | nil => intro u xs h hx _; cases u <;> simp [eqFlat] at h; cases hx; rfl
  | cons k ks ih =>
    intro u xs h hx hr
    obtain ⟨b, hb⟩ := Option.isSome_iff_exists.1 h
    obtain ⟨a, r, c, s, e1, e2, hq⟩ := eqFlat_cons hb
    subst e1
    cases e2
    obtain ⟨x, xr, rfl, _, hxr⟩ := hx
    rcases hq with ⟨_, hq⟩ | ⟨hf, _⟩
    · simp [ih r xr (by rw [hq]; rfl) hxr hr]
    · exact absurd hf (hr _ _)

theorem eqLeaf_refl (k : LK) (a : AV) : eqLeaf k a a ≠ some false := by
  cases k <;> cases a <;> simp [eqLeaf]

theorem run_checkKey {t : TypeId} {k : EK} (hd : KeyDesc P t k) {x : AV} {kx : Value} (hx : RX ρ x [kx]) (hok : okKey k x = true) (e : Bool) (w : World) : (Instr.checkKey e 10000 t kx).run P w = .ok () w := by
  cases k with
  | leaf l => exact run_checkLeaf hd e 9999 kx w
  | flat ks =>
    obtain ⟨hk, fs, hu⟩ := hd
    unfold okKey eqKey at hok
    cases x with
    | agg cs =>
      obtain ⟨xs, rfl, _, h1⟩ := hx.agg_eq
      have hf : flatP P fs.toList 0 = some ks := by
        unfold flatT at hk
        rw [hu] at hk
        simp only at hk
        split at hk
        · cases hk
        · exact hk
      have := okFlat ks _ _ hok h1 eqLeaf_refl
      exact run_checkFlat hu hf e 9998 (by rw [this]; simp) w
    | _ => cases hok
  | _ => exact absurd hd (by simp [KeyDesc])

/-! The deterministic semantics' own looking, by the first place. -/
theorem find_firstAt {k : EK} {x : AV} : ∀ {m : ME} {r : Option AV}, m.find k x = some r → ∃ o, firstAt k x m = some o ∧
    (∀ {es : List MapEntry}, MR ρ m es → (o = none ∧ r = none) ∨ ∃ j v e, o = some j ∧ r = some v ∧ es[j]? = some e ∧ RX ρ v [e.val]) := by
  intro m
  induction m with
  | nil => intro r h; simp [ME.find] at h; subst h; exact ⟨none, rfl, fun _ => .inl ⟨rfl, rfl⟩⟩
  | cons y v b rest ih =>
    intro r h
    simp only [ME.find] at h
    split at h
    · rename_i he
      cases h
      refine ⟨some 0, by simp [firstAt, he], fun hm => .inr ?_⟩
      obtain ⟨e, es', rfl, _, h2, _, _⟩ := hm
      exact ⟨0, v, e, rfl, rfl, rfl, h2⟩
    · rename_i he
      obtain ⟨o, ho, hres⟩ := ih h
      refine ⟨o.map (· + 1), by simp [firstAt, he, ho], fun hm => ?_⟩
      obtain ⟨e, es', rfl, _, h2, _, h4⟩ := hm
      rcases hres h4 with ⟨rfl, rfl⟩ | ⟨j, v', e', rfl, rfl, q1, q2⟩
      · exact .inl ⟨rfl, rfl⟩
      · exact .inr ⟨j + 1, v', e', rfl, rfl, by simpa using q1, q2⟩
    · cases h

theorem put_firstAt {k : EK} {x u : AV} {clock : Nat} : ∀ {m m' : ME} {fresh : Bool}, m.put k x u clock = some (m', fresh) → ∃ o, firstAt k x m = some o ∧
    (∀ {es : List MapEntry} {kx vx : Value}, MR ρ m es → RX ρ x [kx] → RX ρ u [vx] →
      (o = none ∧ fresh = true ∧ MR ρ m' (es ++ [⟨kx, vx, clock⟩])) ∨ ∃ j, o = some j ∧ fresh = false ∧ MR ρ m' (es.modify j fun e => { e with key := kx, val := vx })) := by
  intro m
  induction m with
  | nil =>
    intro m' fresh h
    simp [ME.put] at h
    obtain ⟨rfl, rfl⟩ := h
    refine ⟨none, rfl, fun hm hk hv => .inl ⟨rfl, rfl, ?_⟩⟩
    cases hm
    exact ⟨_, [], rfl, hk, hv, rfl, rfl⟩
  | cons y v b rest ih =>
    intro m' fresh h
    simp only [ME.put] at h
    split at h
    · rename_i he
      cases h
      refine ⟨some 0, by simp [firstAt, he], fun hm hk hv => .inr ⟨0, rfl, rfl, ?_⟩⟩
      obtain ⟨e, es', rfl, _, _, h3, h4⟩ := hm
      exact ⟨_, es', rfl, hk, hv, h3, h4⟩
    · rename_i he
      simp only [Option.map_eq_some_iff] at h
      obtain ⟨⟨m1, f1⟩, h1, e1⟩ := h
      cases e1
      obtain ⟨o, ho, hres⟩ := ih h1
      refine ⟨o.map (· + 1), by simp [firstAt, he, ho], fun hm hk hv => ?_⟩
      obtain ⟨e, es', rfl, q1, q2, q3, q4⟩ := hm
      rcases hres q4 hk hv with ⟨rfl, hf, hm'⟩ | ⟨j, rfl, hf, hm'⟩
      · exact .inl ⟨rfl, hf, e, _, rfl, q1, q2, q3, hm'⟩
      · exact .inr ⟨j + 1, rfl, hf, e, _, rfl, q1, q2, q3, hm'⟩
    · cases h

theorem del_firstAt {k : EK} {x : AV} : ∀ {m m' : ME}, m.del k x = some m' → ∃ o, firstAt k x m = some o ∧
    (∀ {es : List MapEntry}, MR ρ m es → (o = none ∧ MR ρ m' es) ∨ ∃ j, o = some j ∧ MR ρ m' (es.eraseIdx j)) := by
  intro m
  induction m with
  | nil => intro m' h; simp [ME.del] at h; subst h; exact ⟨none, rfl, fun hm => .inl ⟨rfl, hm⟩⟩
  | cons y v b rest ih =>
    intro m' h
    simp only [ME.del] at h
    split at h
    · rename_i he
      cases h
      refine ⟨some 0, by simp [firstAt, he], fun hm => .inr ⟨0, rfl, ?_⟩⟩
      obtain ⟨e, es', rfl, _, _, _, h4⟩ := hm
      exact h4
    · rename_i he
      simp only [Option.map_eq_some_iff] at h
      obtain ⟨m1, h1, rfl⟩ := h
      obtain ⟨o, ho, hres⟩ := ih h1
      refine ⟨o.map (· + 1), by simp [firstAt, he, ho], fun hm => ?_⟩
      obtain ⟨e, es', rfl, q1, q2, q3, q4⟩ := hm
      rcases hres q4 with ⟨rfl, hm'⟩ | ⟨j, rfl, hm'⟩
      · exact .inl ⟨rfl, e, _, rfl, q1, q2, q3, hm'⟩
      · exact .inr ⟨j + 1, rfl, e, _, rfl, q1, q2, q3, hm'⟩
    · cases h

theorem MR.size : ∀ {m : ME} {es : List MapEntry}, MR ρ m es → m.size = es.length := by
  intro m
  induction m with
  | nil => intro es h; cases h; rfl
  | cons k v b r ih => intro es h; obtain ⟨e, es', rfl, _, _, _, h4⟩ := h; simp [ME.size, ih h4]

end
end Go.Dx
set_option linter.unusedSimpArgs false
set_option linter.unusedVariables false
set_option linter.unusedSectionVars false
namespace Go.Dx

theorem OpOk.ofVal {P : Program} {ng : Nat} {ρ : Ren} {H H' : Heap} {w : World} {s : Sem Value} {v : AV} (h : ∃ ρ' w' x, s.run P w = .ok x w' ∧ RX ρ' v [x] ∧ HRel P ng ρ' H' w' ∧ Step ρ H w ρ' H' w') :
    OpOk P ng ρ H w (do pure (.value (← s))) v H' := by
  obtain ⟨ρ', w', x, h1, h2, h3, h4⟩ := h
  exact ⟨ρ', w', x, _, run_val h1, .inl rfl, h2, h3, h4⟩

theorem OpOk.ofSkip {P : Program} {ng : Nat} {ρ : Ren} {H H' : Heap} {w : World} {s : Sem Unit} (h : ∃ w', s.run P w = .ok () w' ∧ HRel P ng ρ H' w' ∧ Step ρ H w ρ H' w') :
    OpOk P ng ρ H w (do s; pure .skip) undefA H' := by
  obtain ⟨w', h1, h3, h4⟩ := h
  exact ⟨ρ, w', undef, _, run_skip h1, .inr ⟨rfl, rfl⟩, RX.undef ρ, h3, h4⟩

theorem OpOk.pureVal {P : Program} {ng : Nat} {ρ : Ren} {H : Heap} {w : World} {s : Sem Value} {v : AV} {x : Value} (hH : HRel P ng ρ H w) (h : s.run P w = .ok x w) (hx : RX ρ v [x]) :
    OpOk P ng ρ H w (do pure (.value (← s))) v H := .ofVal ⟨ρ, w, x, h, hx, hH, Step.refl ρ H w⟩

/-- One step of a `do` in Option. -/
theorem bindO {α β : Type} {x : Option α} {f : α → Option β} {b : β} (h : x.bind f = some b) : ∃ a, x = some a ∧ f a = some b := Option.bind_eq_some_iff.1 h

section
variable {P : Program} {C : Ctx} {ρ : Ren} {ns : List (Option Tmp)} {ls : AV} {fr : Tr AV} {a : Act} {H H' : Heap} {w : World} {v : AV} {ci : CI} {o : Oper}

theorem ok_mov (E : Env P C ρ ns ls fr a H w) {x : Operand} {y : Opd} (hx : Dx.opd C ns x = some y) (hev : (CI.mov y).ev ls fr H = some (v, H')) : OpOk P C.ng ρ H w (pure (.value (a.eval x))) v H' := by
  obtain ⟨u, hu, e⟩ := bindO hev
  cases e
  exact OpOk.val E.H rfl (E.opd hx hu)

theorem run_asBool (b : Bool) (w : World) : (Go.asBool (.bool b)).run P w = .ok b w := rfl

theorem ok_pick (E : Env P C ρ ns ls fr a H w) {c x y : Operand} {c' x' y' : Opd} (hc : Dx.opd C ns c = some c') (hx : Dx.opd C ns x = some x') (hy : Dx.opd C ns y = some y') (hev : (CI.pick c' x' y').ev ls fr H = some (v, H')) :
    OpOk P C.ng ρ H w (do pure (.value (if ← Go.asBool (a.eval c) then a.eval x else a.eval y))) v H' := by
  obtain ⟨t, ht, hev⟩ := bindO hev
  have go : ∀ b : Bool, t = .bool b → (do pure (.value (if ← Go.asBool (a.eval c) then a.eval x else a.eval y)) : Sem Next).run P w = .ok (.value (if b then a.eval x else a.eval y)) w := by
    intro b hb
    subst hb
    rw [(E.opd hc ht).bool_eq]
    show (Go.asBool (.bool b) >>= fun b => (pure (.value (if b then a.eval x else a.eval y)) : Sem Next)).run P w = _
    rw [runB (run_asBool b w)]
    rfl
  split at hev
  · obtain ⟨z, hz, e⟩ := bindO hev
    cases e
    exact OpOk.val E.H (go true rfl) (E.opd hx hz)
  · obtain ⟨z, hz, e⟩ := bindO hev
    cases e
    exact OpOk.val E.H (go false rfl) (E.opd hy hz)
  · cases hev

/-! New blocks. -/
def pushed (w : World) (o : Obj) : World := { w with heap := w.heap.push o }

theorem run_newRow {elem : TypeId} {cells : Array Value} : (newRow elem cells).run P w = .ok ⟨w.heap.size, 0, none⟩ (pushed w (.cells cells elem)) := rfl

theorem newRow_ok {ng : Nat} (hH : HRel P ng ρ H w) {vs : AV} {p : Pos} (hs : H.row vs false = some (p, H')) (elem : TypeId) {cells : Array Value} (hr : RX ρ vs cells.toList) :
    ∃ ρ' w', (newRow elem cells).run P w = .ok ⟨w.heap.size, 0, none⟩ w' ∧ ρ' p = some ⟨w.heap.size, 0, cells.size⟩ ∧ HRel P ng ρ' H' w' ∧ Step ρ H w ρ' H' w' := by
  obtain ⟨e, h1, h2, _, _⟩ := hH.newRow (op := false) (c := cells) (elem := elem) (fr := (0, 0)) (w' := pushed w (.cells cells elem)) hs rfl rfl rfl rfl hr (fun j _ => by simp) (by simp) (fun _ => ⟨by simp, rfl⟩) (fun i _ => by simp)
  subst e
  exact ⟨_, _, run_newRow, by simp [Ren.put], h1, h2⟩

theorem row_isList {vs : AV} {op : Bool} {q : Pos × Heap} (h : H.row vs op = some q) : vs.isList = true := by
  unfold Heap.row treeOf at h
  simp only [Option.map_eq_some_iff] at h
  obtain ⟨t, ht, _⟩ := h
  exact (putCells_get _ _ _ _ ht).1

theorem zeroCells_run {t : TypeId} {z : AV} (h : zeroCellsP P t = some z) (w : World) : ∃ u n, (zeroValue t).run P w = .ok u w ∧ (∀ ρ, RX ρ z u.cells.toList) ∧ sizeP P t = some n ∧ z.len = n ∧ z.isList = true ∧ u.cells.size = n := by
  unfold zeroCellsP at h
  split at h
  · rename_i z0 n hz hn
    split at h
    · rename_i hc
      cases h
      obtain ⟨u, hu, hr⟩ := run_zero hz w
      have h1 : ∀ ρ, RX ρ z0.cells u.cells.toList := fun ρ => (hr ρ).cells hc.2
      refine ⟨u, n, hu, h1, hn, hc.1, hc.2, ?_⟩
      have := (h1 fun _ => none).len hc.2
      rw [hc.1] at this
      simpa using this.symm
    · cases h
  · cases h

theorem ok_alloc (E : Env P C ρ ns ls fr a H w) {t : TypeId} {z : AV} (hz : zeroCellsP P t = some z) (hev : (CI.alloc z z.len).ev ls fr H = some (v, H')) :
    OpOk P C.ng ρ H w (do pure (.value (← Instr.alloc t true (.tuple #[])))) v H' := by
  simp only [CI.ev, ne_eq, not_true_eq_false, if_false] at hev
  obtain ⟨⟨p, H1⟩, hp, e⟩ := bindO hev
  cases e
  obtain ⟨u, n, h1, h2, h3, h4, h5, h6⟩ := zeroCells_run hz w
  obtain ⟨ρ', w', r1, r2, r3, r4⟩ := newRow_ok (P := P) E.H hp t (h2 ρ)
  refine .ofVal ⟨ρ', w', .pointer (some ⟨w.heap.size, 0, none⟩), ?_, ⟨_, r2, rfl⟩, r3, r4⟩
  unfold Instr.alloc
  rw [runB h1]
  simp only
  unfold newVar
  rw [runB r1]
  rfl

theorem ok_bld (E : Env P C ρ ns ls fr a H w) {t e : TypeId} (hb : bldP P t = some e) (hev : (CI.bld t e).ev ls fr H = some (v, H')) :
    OpOk P C.ng ρ H w (do pure (.value (← Instr.alloc t true (.tuple #[])))) v H' := by
  cases hev
  obtain ⟨u, n, h1, h2, h3, h4, h5, h6⟩ := zeroCells_run (bldP_zero hb) w
  have hu : u.cells = #[.pointer none, .slice none 0 0] := by
    obtain ⟨x, xs, e1, hx, y, ys, e2, hy, e3⟩ := h2 ρ
    simp only [RX] at hx hy e3
    simp only [List.cons.injEq, and_true] at hx hy
    apply Array.ext'
    rw [e1, e2, e3, hx, hy]
  refine .ofVal ⟨ρ.put H.next ⟨w.heap.size, 0, 2⟩, pushed w (.cells u.cells t), .pointer (some ⟨w.heap.size, 0, none⟩), ?_, ⟨⟨w.heap.size, 0, 2⟩, by simp [Ren.put, Heap.new], rfl⟩,
    E.H.alloc (o := .cells u.cells t) rfl (fun ρ' _ => ⟨rfl, .slice none 0 0, by rw [hu]; show (w.heap.push _)[w.heap.size]? = _; simp, rfl⟩) (by simp) hb, Step.alloc E.H rfl rfl rfl rfl⟩
  unfold Instr.alloc
  rw [runB h1]
  rfl

theorem ok_box (E : Env P C ρ ns ls fr a H w) {t : TypeId} {x : Operand} {y : Opd} (hx : Dx.opd C ns x = some y) (hev : (CI.box y).ev ls fr H = some (v, H')) :
    OpOk P C.ng ρ H w (do pure (.value (← Instr.box t (a.eval x)))) v H' := by
  obtain ⟨u, hu, hev⟩ := bindO hev
  obtain ⟨⟨p, H1⟩, hp, e⟩ := bindO hev
  cases e
  obtain ⟨ρ', w', r1, r2, r3, r4⟩ := newRow_ok (P := P) E.H hp t ((E.opd hx hu).cells (row_isList hp))
  refine .ofVal ⟨ρ', w', .pointer (some ⟨w.heap.size, 0, none⟩), ?_, ⟨_, r2, rfl⟩, r3, r4⟩
  unfold Instr.box newVar
  rw [runB r1]
  rfl

/-! Structs that are built. -/
theorem foldl_get (off : Nat) : ∀ (l : List Value) (k : Nat) (cs : Array Value) (j : Nat), off + k + l.length ≤ cs.size →
    ((l.zipIdx k).foldl (fun (cs : Array Value) (p : Value × Nat) => cs.setIfInBounds (off + p.2) p.1) cs)[j]? = if off + k ≤ j ∧ j < off + k + l.length then l[j - (off + k)]? else cs[j]? := by
  intro l
  induction l with
  | nil => intro k cs j h; rw [if_neg (by simp)]; rfl
  | cons x l ih =>
    intro k cs j h
    simp only [List.length_cons] at h ⊢
    simp only [List.zipIdx_cons, List.foldl_cons]
    rw [ih (k + 1) _ j (by simp; omega)]
    by_cases h1 : j = off + k
    · subst h1
      rw [if_neg (by omega), if_pos (by omega), Array.getElem?_setIfInBounds_self_of_lt (by omega), Nat.sub_self]
      rfl
    · rw [Array.getElem?_setIfInBounds_ne (by omega)]
      by_cases h2 : off + (k + 1) ≤ j ∧ j < off + (k + 1) + l.length
      · rw [if_pos h2, if_pos (by omega), show j - (off + k) = (j - (off + (k + 1))) + 1 by omega, List.getElem?_cons_succ]
      · rw [if_neg h2, if_neg (by omega)]

theorem foldl_set (off : Nat) (l : List Value) (cs : Array Value) (h : off + l.length ≤ cs.size) :
    ((l.zipIdx 0).foldl (fun (cs : Array Value) (p : Value × Nat) => cs.setIfInBounds (off + p.2) p.1) cs).toList = cs.toList.take off ++ (l ++ cs.toList.drop (off + l.length)) := by
  apply List.ext_getElem?
  intro j
  rw [Array.getElem?_toList, foldl_get off l 0 cs j (by omega)]
  simp only [Nat.add_zero]
  by_cases h1 : j < off
  · rw [if_neg (by omega), List.getElem?_append_left (by simp; omega), List.getElem?_take_of_lt h1, Array.getElem?_toList]
  · have hl : (cs.toList.take off).length = off := by simp; omega
    rw [List.getElem?_append_right (by rw [hl]; omega), hl]
    by_cases h2 : j < off + l.length
    · rw [if_pos (by omega), List.getElem?_append_left (by omega)]
    · rw [if_neg (by omega), List.getElem?_append_right (by omega), List.getElem?_drop, Array.getElem?_toList]
      congr 1
      omega

/-- A part's value. -/
def pv (f : Operand → Value) (x : Nat × Operand) : Nat × Value := (x.1, f x.2)

theorem fill_rel {place : Nat → Option (Nat × Nat)} (hF : FRel C ρ fr a.tmps) (hL : LRel ρ ns ls a.tmps) (hG : ∀ g, g < C.ng → ∃ sz, ρ (key g) = some ⟨g, 0, sz⟩) :
    ∀ (ps : List (Nat × Operand)) (qs : Parts) (t r : AV) (cs : Array Value), partsP C place ns ps = some qs → Parts.fill ls fr t qs = some r → RX ρ t cs.toList → t.isList = true →
    ∃ cs', Instr.fill place cs (ps.map (pv a.eval)) = some cs' ∧ RX ρ r cs'.toList ∧ r.isList = true ∧ cs'.size = cs.size := by
  intro ps
  induction ps with
  | nil => intro qs t r cs h1 h2 h3 h4; simp [partsP] at h1; subst h1; simp [Parts.fill] at h2; subst h2; exact ⟨cs, rfl, h3, h4, rfl⟩
  | cons p ps ih =>
    obtain ⟨i, x⟩ := p
    intro qs t r cs h1 h2 h3 h4
    simp only [partsP] at h1
    split at h1
    · rename_i off n y rest hp hy hrest
      cases h1
      simp only [Parts.fill] at h2
      obtain ⟨u, hu, h2⟩ := bindO h2
      split at h2
      · rename_i hc
        obtain ⟨c1, c2, c3⟩ := hc
        have hu' := (opd_rel hF hL hG hy hu).cells c3
        have hlen := hu'.len c3
        rw [c1] at hlen
        have htl := h3.len h4
        have hsz : (a.eval x).cells.size = n := by simpa using hlen.symm
        have hts : t.len = cs.size := by simpa using htl
        have hnew : RX ρ (AV.app (t.take off) (AV.app u.cells (t.drop (off + n)))) ((((a.eval x).cells.zipIdx).foldl (fun (cs : Array Value) (p : Value × Nat) => cs.setIfInBounds (off + p.2) p.1) cs).toList) ∧ (AV.app (t.take off) (AV.app u.cells (t.drop (off + n)))).isList = true := by
          obtain ⟨d1, d2⟩ := h3.drop (n := off + n) h4
          obtain ⟨t1, t2⟩ := h3.take (n := off) h4
          have e := foldl_set off (a.eval x).cells.toList cs (by simp [hsz]; omega)
          have e2 : ((a.eval x).cells.zipIdx).foldl (fun (cs : Array Value) (p : Value × Nat) => cs.setIfInBounds (off + p.2) p.1) cs = ((a.eval x).cells.toList.zipIdx 0).foldl (fun (cs : Array Value) (p : Value × Nat) => cs.setIfInBounds (off + p.2) p.1) cs := by
            rw [← Array.foldl_toList]; simp
          rw [e2, e]
          refine ⟨?_, AV.isList_app t2 (AV.isList_app c3 d2)⟩
          simp only [Array.length_toList, hsz]
          exact t1.app t2 (hu'.app c3 d1)
        obtain ⟨cs', q1, q2, q3, q4⟩ := ih rest _ r _ hrest h2 hnew.1 hnew.2
        refine ⟨cs', ?_, q2, q3, ?_⟩
        · simp only [List.map_cons, pv, Instr.fill, hp]
          rw [if_neg (by simp [hsz]; omega)]
          exact q1
        · rw [q4]
          have : ∀ (l : List (Value × Nat)) (cs : Array Value), (l.foldl (fun (cs : Array Value) (p : Value × Nat) => cs.setIfInBounds (off + p.2) p.1) cs).size = cs.size := by
            intro l
            induction l with
            | nil => intro cs; rfl
            | cons p l ih => intro cs; rw [List.foldl_cons, ih]; simp
          rw [← Array.foldl_toList]
          exact this _ _
      · cases h2
    · cases h1

theorem run_places (fs : List Field) : (∀ f ∈ fs, (sizeP P f.type).isSome = true) → ∀ (w : World), (fs.mapM (fun f => do pure (f.offset, ← sizeOf f.type)) : Sem (List (Nat × Nat))).run P w = .ok (fs.map fun f => (f.offset, (sizeP P f.type).getD 0)) w := by
  induction fs with
  | nil => intro _ w; rfl
  | cons f fs ih =>
    intro h w
    rw [List.mapM_cons]
    obtain ⟨n, hn⟩ := Option.isSome_iff_exists.1 (h f (by simp))
    have h1 : (do pure (f.offset, ← sizeOf f.type) : Sem (Nat × Nat)).run P w = .ok (f.offset, n) w := by
      show (sizeOf f.type >>= fun n => (pure (f.offset, n) : Sem (Nat × Nat))).run P w = _
      rw [runB (run_sizeOf hn w)]; rfl
    rw [runB h1, runB (ih (fun g hg => h g (by simp [hg])) w)]
    simp only [List.map_cons, hn, Option.getD_some]
    rfl

theorem fieldsAt_eq {fs : List Field} {j off n : Nat} (h : fieldsAt P fs j = some (off, n)) : ∃ f, fs[j]? = some f ∧ f.offset = off ∧ sizeP P f.type = some n := by
  unfold fieldsAt at h
  split at h
  · rename_i f hf
    split at h
    · rename_i m hm; cases h; exact ⟨f, hf, rfl, hm⟩
    · cases h
  · cases h

theorem fill_congr {p q : Nat → Option (Nat × Nat)} : ∀ (l : List (Nat × Value)) (cs : Array Value), (∀ x ∈ l, p x.1 = q x.1) → Instr.fill p cs l = Instr.fill q cs l := by
  intro l
  induction l with
  | nil => intro cs _; rfl
  | cons x l ih =>
    intro cs h
    obtain ⟨i, u⟩ := x
    have hi : p i = q i := h (i, u) (by simp)
    simp only [Instr.fill]
    rw [hi]
    split
    · rfl
    · split
      · rfl
      · exact ih _ fun x hx => h x (by simp [hx])

theorem partsP_places {place : Nat → Option (Nat × Nat)} : ∀ (ps : List (Nat × Operand)) (qs : Parts), partsP C place ns ps = some qs → ∀ x ∈ ps, ∃ r, place x.1 = some r := by
  intro ps
  induction ps with
  | nil => intro qs _ x hx; cases hx
  | cons p ps ih =>
    obtain ⟨i, y⟩ := p
    intro qs h x hx
    simp only [partsP] at h
    split at h
    · rename_i off n b rest hp hb hrest
      cases hx with
      | head => exact ⟨_, hp⟩
      | tail _ hx => exact ih rest hrest x hx
    · cases h

end
end Go.Dx
