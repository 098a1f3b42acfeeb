/-
  Comparing: '==' of each kind that the deterministic semantics compares, and a map's keys.
-/
import Derived.Test.YtnlbchnlbpaflaaGreatDoorDxText
set_option linter.unusedSimpArgs false
set_option linter.unusedVariables false
set_option linter.unusedSectionVars false
namespace Go.Dx

section
variable {P : Program} {ng : Nat} {ρ : Ren} {H : Heap} {w : World}

theorem eqLeaf_rel {k : LK} {u u' : AV} {x y : Value} {b : Bool} {t : TypeId} (hk : leafP P t = some k) (hx : RX ρ u [x]) (hy : RX ρ u' [y]) (h : eqLeaf k u u' = some b) (d : Nat) (w : World) :
    (Op.equalIn (d + 1) t x y).run P w = .ok b w := by
  unfold leafP at hk
  unfold eqLeaf at h
  split at h
  · split at h
    · rename_i c a c' b' hc
      subst hc
      cases h
      obtain ⟨_, rfl⟩ := hx.int_eq
      obtain ⟨_, rfl⟩ := hy.int_eq
      split at hk <;> cases hk
      rename_i hu
      exact run_equalIn_int w d t _ _ _ _ hu
    · cases h
  · cases h
    obtain ⟨h1, rfl⟩ := hx.str_eq
    obtain ⟨h2, rfl⟩ := hy.str_eq
    split at hk <;> cases hk
    rename_i hu
    rw [run_equalIn_string w d t _ _ hu, eq_text h1 h2]
  · cases h
    rw [hx.bool_eq, hy.bool_eq]
    split at hk <;> cases hk
    rename_i hu
    exact run_equalIn_bool' w d t _ _ hu
  · cases h

theorem leaf_isAgg {k : LK} {t : TypeId} (hk : leafP P t = some k) : isAggP P t = some false := by
  unfold leafP at hk
  unfold isAggP
  split at hk <;> first | (cases hk; done) | (rename_i hu; rw [hu])

theorem run_part1 {t : TypeId} {xs : Array Value} {o : Nat} {x : Value} (ht : isAggP P t = some false) (hx : xs[o]? = some x) (w : World) : (part t xs o).run P w = .ok x w := by
  unfold part
  rw [runB (run_isAgg ht w)]
  simp only [Bool.false_eq_true, if_false, hx]
  rfl

theorem eqFlat_nil {u u' : AV} {b : Bool} (h : eqFlat [] u u' = some b) : b = true := by
  cases u <;> cases u' <;> simp [eqFlat] at h
  exact h
theorem eqFlat_cons {k : LK} {ks : List LK} {u u' : AV} {b : Bool} (h : eqFlat (k :: ks) u u' = some b) :
    ∃ a r c s, u = .cons a r ∧ u' = .cons c s ∧ ((eqLeaf k a c = some true ∧ eqFlat ks r s = some b) ∨ (eqLeaf k a c = some false ∧ b = false)) := by
  cases u <;> cases u' <;> simp only [eqFlat] at h <;> try (cases h; done)
  rename_i a r c s
  refine ⟨a, r, c, s, rfl, rfl, ?_⟩
  split at h
  · rename_i e; exact .inl ⟨e, h⟩
  · rename_i e; cases h; exact .inr ⟨e, rfl⟩
  · cases h

theorem eqFlat_rel : ∀ (fs : List Field) (off : Nat) (ks : List LK) (u u' : AV) (xs ys : Array Value) (b : Bool) (d : Nat) (w : World), flatP P fs off = some ks → eqFlat ks u u' = some b →
    RX ρ u (xs.toList.drop off) → RX ρ u' (ys.toList.drop off) → (Op.eqFields (d + 1) xs ys fs).run P w = .ok b w := by
  intro fs
  induction fs with
  | nil =>
    intro off ks u u' xs ys b d w hf he _ _
    simp [flatP] at hf
    subst hf
    rw [eqFlat_nil he]
    rfl
  | cons f fs ih =>
    intro off ks u u' xs ys b d w hf he hx hy
    simp only [flatP] at hf
    split at hf
    · cases hf
    · rename_i hc
      simp only [not_or, Decidable.not_not] at hc
      obtain ⟨hn, ho, hs⟩ := hc
      split at hf
      · cases hf
      · rename_i k hk
        split at hf
        · cases hf
        · rename_i ks' hks
          cases hf
          obtain ⟨a, r, c, s, e1, e2, hq⟩ := eqFlat_cons he
          subst e1 e2
          obtain ⟨x, xr, ex, hxa, hxr⟩ := hx
          obtain ⟨y, yr, ey, hya, hyr⟩ := hy
          have gx : xs[off]? = some x := by
            have := congrArg (·[0]?) ex
            simpa [List.getElem?_drop] using this
          have gy : ys[off]? = some y := by
            have := congrArg (·[0]?) ey
            simpa [List.getElem?_drop] using this
          have dx : xr = xs.toList.drop (off + 1) := by
            have := congrArg (List.drop 1) ex
            simpa [List.drop_drop, Nat.add_comm] using this.symm
          have dy : yr = ys.toList.drop (off + 1) := by
            have := congrArg (List.drop 1) ey
            simpa [List.drop_drop, Nat.add_comm] using this.symm
          have hagg := leaf_isAgg hk
          simp only [Op.eqFields]
          rw [if_pos hn, ho]
          rw [runB (run_part1 hagg gx w), runB (run_part1 hagg gy w)]
          rcases hq with ⟨hb, hq⟩ | ⟨hb, hf⟩
          · rw [runB (eqLeaf_rel hk hxa hya hb d w)]
            simp only [Bool.not_true, Bool.false_eq_true, if_false]
            exact ih (off + 1) ks' r s xs ys b d w hks hq (dx ▸ hxr) (dy ▸ hyr)
          · rw [runB (eqLeaf_rel hk hxa hya hb d w), hf]
            rfl

/-- Structs that are flat. -/
theorem eqFlatT_rel {t : TypeId} {ks : List LK} {u u' : AV} {xs ys : Array Value} {b : Bool} (hk : flatT P t = some ks) (hx : RX ρ u xs.toList) (hy : RX ρ u' ys.toList) (h : eqFlat ks u u' = some b) (d : Nat) (w : World) :
    (Op.equalIn (d + 2) t (.agg xs) (.agg ys)).run P w = .ok b w := by
  unfold flatT at hk
  split at hk
  · rename_i fs hu
    split at hk
    · cases hk
    · rename_i hc
      simp only [not_or, Bool.not_eq_true] at hc
      have hf : P.fieldsOf t = fs := by unfold Program.fieldsOf; rw [hu]
      rw [run_equalIn_agg w (d + 1) t xs ys (by rw [hf]; exact hu) hc.1, hf]
      exact eqFlat_rel fs.toList 0 ks u u' xs ys b d w hk h (by simpa using hx) (by simpa using hy)
  · cases hk

theorem flat_eqGuard {t : TypeId} {ks : List LK} (hk : flatT P t = some ks) : P.eqGuardType P.depth t = false := by
  unfold flatT at hk
  split at hk
  · split at hk
    · cases hk
    · rename_i hc
      simp only [not_or, Bool.not_eq_true] at hc
      exact hc.2
  · cases hk

theorem run_sameAddr (hH : HRel P ng ρ H w) {p q : Pos} {o u : Nat} {L M : Loc} (hL : ρ p = some L) (hM : ρ q = some M) {b : Bool}
    (h : (if p = q then some (o == u) else if H.closed p && H.closed q then some false else none) = some b) :
    (sameAddr ⟨L.b, L.base + o, none⟩ ⟨M.b, M.base + u, none⟩).run P w = .ok b w := by
  split at h
  · rename_i e
    subst e
    rw [hL] at hM; cases hM; cases h
    unfold sameAddr
    simp only [beq_self_eq_true, if_true]
    show (pure _ : Sem Bool).run P w = _
    rw [runP]
    congr 1
    rw [Bool.eq_iff_iff]
    simp
  · rename_i e
    split at h
    · rename_i hc
      cases h
      simp only [Bool.and_eq_true] at hc
      have key : ∀ {r : Pos} {N : Loc}, H.closed r = true → ρ r = some N → ∃ c e fr, w.heap[N.b]? = some (.cells c e fr) ∧ ∀ i, (fr.1 ≤ i && i < fr.2) = false := by
        intro r N hr hN
        unfold Heap.closed at hr
        split at hr
        · rename_i t n ho
          obtain ⟨c, e, fr, h1, _, _, h4, _⟩ := hH.row ho hN
          exact ⟨c, e, fr, h1, (h4 rfl).2.2⟩
        · cases hr
      have live : ∀ {r : Pos}, H.closed r = true → H.live r = true := by
        intro r hr
        unfold Heap.closed at hr
        split at hr
        · rename_i t n ho; exact live_of_get ho (by simp)
        · cases hr
      obtain ⟨c1, e1, f1, b1, z1⟩ := key hc.1 hL
      obtain ⟨c2, e2, f2, b2, z2⟩ := key hc.2 hM
      have hne : L.b ≠ M.b := fun eb => e (hH.inj p q L M (live hc.1) (live hc.2) hL hM eb)
      have fz : ∀ {bb o : Nat} {c : Array Value} {e : TypeId} {fr : Nat × Nat}, w.heap[bb]? = some (.cells c e fr) → (∀ i, (fr.1 ≤ i && i < fr.2) = false) → w.frozen? ⟨bb, o, none⟩ = false := by
        intro bb o c e fr hb hz
        unfold World.frozen?
        simp [hb]
        simpa using hz o
      have sh : ∀ {bb : Nat} {c : Array Value} {e : TypeId} {fr : Nat × Nat}, w.heap[bb]? = some (.cells c e fr) → w.shape? bb = some (e, c.size) := by
        intro bb c e fr hb
        unfold World.shape?
        simp [hb]
      have rf : ∀ (x : Addr), (frozen x).run P w = .ok (w.frozen? x) w := fun x => rfl
      have rs : ∀ (r : Nat), (shape r).run P w = .ok (w.shape? r) w := fun r => rfl
      have nv : ∀ {x : Addr} {c : Array Value} {e : TypeId} {fr : Nat × Nat}, w.heap[x.block]? = some (.cells c e fr) → (noView x).run P w = .ok () w := by
        intro x c e fr hb
        unfold noView
        have h2 : (viewAt x.block).run P w = .ok none w := by
          unfold viewAt
          rw [runB (rs x.block), sh hb]; rfl
        rw [runB h2]; rfl
      have st : ∀ {x : Addr} {c : Array Value} {e : TypeId} {fr : Nat × Nat}, x.spot = none → w.heap[x.block]? = some (.cells c e fr) → (∀ i, (fr.1 ≤ i && i < fr.2) = false) → (stringish x).run P w = .ok false w := by
        intro x c e fr hsp hb hz
        obtain ⟨xb, xo, xs⟩ := x
        cases hsp
        unfold stringish
        rw [runB (rf _), fz hb hz]
        simp only [Bool.false_eq_true, if_false]
        rw [runB (rs _), sh hb]
        show (frozen _).run P w = _
        rw [rf, fz hb hz]
      unfold sameAddr
      have hbeq : ((⟨L.b, L.base + o, none⟩ : Addr).block == (⟨M.b, M.base + u, none⟩ : Addr).block) = false := by simpa using hne
      simp only [hbeq, Bool.false_eq_true, if_false]
      rw [runB (rf _), fz b1 z1, runB (rf _), fz b2 z2]
      simp only [Bool.and_self, Bool.false_eq_true, if_false]
      rw [runB (nv b1), runB (nv b2)]
      have m : (mayBeOne ⟨L.b, L.base + o, none⟩ ⟨M.b, M.base + u, none⟩).run P w = .ok false w := by
        unfold mayBeOne
        rw [runB (st rfl b1 z1), runB (st rfl b2 z2)]
        rfl
      rw [runB m]
      rfl
    · cases h

def EqDesc (P : Program) (t : TypeId) : EK → Prop
  | .leaf l => leafP P t = some l
  | .ptr => ∃ e, P.underlying t = some (.pointer e) ∧ (sizeP P e).getD 0 ≠ 0
  | .slice => ∃ e, P.underlying t = some (.slice e)
  | .map => ∃ k e, P.underlying t = some (.map k e)
  | .func => ∃ a r v, P.underlying t = some (.func a r v)
  | .iface => ∃ ms, P.underlying t = some (.interface ms)
  | .flat ks => flatT P t = some ks ∧ ∃ fs, P.underlying t = some (.struct fs)

theorem eqP_desc {t : TypeId} {k : EK} (h : eqP P t = some k) : EqDesc P t k := by
  unfold eqP at h
  split at h
  · rename_i l hl; cases h; exact hl
  · split at h
    · rename_i e hu
      split at h
      · cases h
      · rename_i hz; cases h; exact ⟨e, hu, hz⟩
    · rename_i e hu; cases h; exact ⟨e, hu⟩
    · rename_i a b hu; cases h; exact ⟨a, b, hu⟩
    · rename_i a b c hu; cases h; exact ⟨a, b, c, hu⟩
    · rename_i ms hu; cases h; exact ⟨ms, hu⟩
    · rename_i fs hu
      simp only [Option.map_eq_some_iff] at h
      obtain ⟨ks, hks, rfl⟩ := h
      exact ⟨hks, fs, hu⟩
    · cases h

/-- What a comparison of two values of a type comes to. -/
theorem run_equal {t : TypeId} {k : EK} (hd : EqDesc P t k) (hH : HRel P ng ρ H w) {u u' : AV} {x y : Value} {b : Bool} (hx : RX ρ u [x]) (hy : RX ρ u' [y]) (h : eqA H k u u' = some b) :
    (Op.equal t x y).run P w = .ok b w := by
  have pb : ∀ z : Bool, (pure z : Sem Bool).run P w = .ok z w := fun z => rfl
  unfold eqA at h
  split at h
  · exact eqLeaf_rel hd hx hy h 9999 w
  · obtain ⟨xs, rfl, _, h1⟩ := hx.agg_eq
    obtain ⟨ys, rfl, _, h2⟩ := hy.agg_eq
    exact eqFlatT_rel hd.1 h1 h2 h 9998 w
  · cases h; cases hx; cases hy; obtain ⟨e, hu, _⟩ := hd
    unfold Op.equal Op.maxDepth Op.equalIn; rw [runB (run_underlying hu w)]; rfl
  · cases h; cases hx; obtain ⟨L, _, rfl⟩ := hy.ptr_eq; obtain ⟨e, hu, _⟩ := hd
    unfold Op.equal Op.maxDepth Op.equalIn; rw [runB (run_underlying hu w)]; rfl
  · cases h; cases hy; obtain ⟨L, _, rfl⟩ := hx.ptr_eq; obtain ⟨e, hu, _⟩ := hd
    unfold Op.equal Op.maxDepth Op.equalIn; rw [runB (run_underlying hu w)]; rfl
  · obtain ⟨L, hL, rfl⟩ := hx.ptr_eq; obtain ⟨M, hM, rfl⟩ := hy.ptr_eq; obtain ⟨e, hu, hz⟩ := hd
    have hs := run_sameAddr (P := P) hH hL hM h
    unfold Op.equal Op.maxDepth Op.equalIn
    rw [runB (run_underlying hu w)]
    show (sizeOf e >>= _).run P w = _
    cases hsz : sizeP P e with
    | none => rw [hsz] at hz; exact absurd rfl hz
    | some n =>
      rw [hsz] at hz
      rw [runB (run_sizeOf hsz w)]
      simp only [ne_eq]
      rw [if_pos (by simpa using hz)]
      exact hs
  · cases h; cases hx; cases hy; obtain ⟨e, hu⟩ := hd
    unfold Op.equal Op.maxDepth Op.equalIn; rw [runB (run_underlying hu w)]; rfl
  · cases h; cases hx; obtain ⟨L, _, _, rfl⟩ := hy.slice_eq; obtain ⟨e, hu⟩ := hd
    unfold Op.equal Op.maxDepth Op.equalIn; rw [runB (run_underlying hu w)]; rfl
  · cases h; cases hx; obtain ⟨e, hu⟩ := hd
    obtain ⟨L, _, hy⟩ := hy
    rcases hy with ⟨_, _, _, e⟩ | ⟨_, _, _, e⟩ <;> cases e <;>
      (unfold Op.equal Op.maxDepth Op.equalIn; rw [runB (run_underlying hu w)]; rfl)
  · cases h; cases hy; obtain ⟨L, _, _, rfl⟩ := hx.slice_eq; obtain ⟨e, hu⟩ := hd
    unfold Op.equal Op.maxDepth Op.equalIn; rw [runB (run_underlying hu w)]; rfl
  · cases h; cases hy; obtain ⟨e, hu⟩ := hd
    obtain ⟨L, _, hx⟩ := hx
    rcases hx with ⟨_, _, _, e⟩ | ⟨_, _, _, e⟩ <;> cases e <;>
      (unfold Op.equal Op.maxDepth Op.equalIn; rw [runB (run_underlying hu w)]; rfl)
  · cases h; cases hx; cases hy; obtain ⟨_, _, hu⟩ := hd
    unfold Op.equal Op.maxDepth Op.equalIn; rw [runB (run_underlying hu w)]; rfl
  · cases h; cases hx; obtain ⟨L, _, rfl⟩ := hy.map_eq; obtain ⟨_, _, hu⟩ := hd
    unfold Op.equal Op.maxDepth Op.equalIn; rw [runB (run_underlying hu w)]; rfl
  · cases h; cases hy; obtain ⟨L, _, rfl⟩ := hx.map_eq; obtain ⟨_, _, hu⟩ := hd
    unfold Op.equal Op.maxDepth Op.equalIn; rw [runB (run_underlying hu w)]; rfl
  · cases h; cases hx; cases hy; obtain ⟨_, _, _, hu⟩ := hd
    unfold Op.equal Op.maxDepth Op.equalIn; rw [runB (run_underlying hu w)]; rfl
  · cases h; cases hx; obtain ⟨_, _, _, _, e, _⟩ := hy; cases e; obtain ⟨_, _, _, hu⟩ := hd
    unfold Op.equal Op.maxDepth Op.equalIn; rw [runB (run_underlying hu w)]; rfl
  · cases h; cases hy; obtain ⟨_, _, _, _, e, _⟩ := hx; cases e; obtain ⟨_, _, _, hu⟩ := hd
    unfold Op.equal Op.maxDepth Op.equalIn; rw [runB (run_underlying hu w)]; rfl
  · cases h; cases hx; cases hy; obtain ⟨_, hu⟩ := hd
    unfold Op.equal Op.maxDepth Op.equalIn; rw [runB (run_underlying hu w)]; rfl
  · cases h; cases hx; obtain ⟨_, rfl, _⟩ := hy.iface_eq; obtain ⟨_, hu⟩ := hd
    unfold Op.equal Op.maxDepth Op.equalIn; rw [runB (run_underlying hu w)]; rfl
  · cases h; cases hy; obtain ⟨_, rfl, _⟩ := hx.iface_eq; obtain ⟨_, hu⟩ := hd
    unfold Op.equal Op.maxDepth Op.equalIn; rw [runB (run_underlying hu w)]; rfl
  · cases h

/-- The guard ahead of a comparison says nothing. -/
theorem run_guard {op : BinOp} {t : TypeId} {k : EK} (hd : EqDesc P t k) (ox oy : Operand) (hok : ifaceOk P t ox oy = true) {u u' : AV} {x y : Value} {b : Bool} (hx : RX ρ u [x]) (hy : RX ρ u' [y]) (h : eqA H k u u' = some b) :
    (eqGuard op t ox oy x y).run P w = .ok () w := by
  have pu : (pure () : Sem Unit).run P w = .ok () w := rfl
  by_cases hop : op = .eql ∨ op = .neq
  · by_cases hag : ∃ xs ys, x = .agg xs ∧ y = .agg ys
    · obtain ⟨xs, ys, rfl, rfl⟩ := hag
      have hks : ∃ ks, flatT P t = some ks := by
        unfold eqA at h
        split at h
        · unfold eqLeaf at h
          split at h
          · obtain ⟨_, e⟩ := hx; cases e
          · obtain ⟨_, e⟩ := hx; cases e
          · cases hx
          · cases h
        · exact ⟨_, hd.1⟩
        all_goals first
          | (cases hx; done)
          | (cases hy; done)
          | (obtain ⟨_, _, e⟩ := hx; cases e; done)
          | (obtain ⟨_, _, _, e⟩ := hx; cases e; done)
          | (obtain ⟨_, _, e⟩ := hx; rcases e with ⟨_, _, _, e⟩ | ⟨_, _, _, e⟩ <;> cases e; done)
          | (obtain ⟨_, _, _, _, e, _⟩ := hx; cases e; done)
          | (obtain ⟨_, e, _⟩ := hx; cases e; done)
          | (cases h; done)
      obtain ⟨ks, hks⟩ := hks
      exact run_eqGuard_agg w op t ox oy xs ys (flat_eqGuard hks)
    · by_cases hni : x = .nilIface ∧ y = .nilIface
      · obtain ⟨rfl, rfl⟩ := hni
        have hk : ∃ ms, P.underlying t = some (.interface ms) := by
          unfold eqA at h
          split at h
          · unfold eqLeaf at h
            split at h
            · obtain ⟨_, e⟩ := hx; cases e
            · obtain ⟨_, e⟩ := hx; cases e
            · cases hx
            · cases h
          all_goals first
            | (obtain ⟨_, e, _⟩ := hx; cases e; done)
            | (cases hx; done)
            | (obtain ⟨_, _, e⟩ := hx; cases e; done)
            | (obtain ⟨_, _, _, e⟩ := hx; cases e; done)
            | (obtain ⟨_, _, e⟩ := hx; rcases e with ⟨_, _, _, e⟩ | ⟨_, _, _, e⟩ <;> cases e; done)
            | (obtain ⟨_, _, _, _, e, _⟩ := hx; cases e; done)
            | exact hd
            | (cases h; done)
        obtain ⟨ms, hu⟩ := hk
        have main : ms.isEmpty = true → (do if ← Op.eqGuardIn Op.maxDepth t .nilIface .nilIface then unsupported (.noEntry "binop/eql: two nil values of an interface type with methods, neither of them the literal nil") : Sem Unit).run P w = .ok () w := by
          intro hms
          have hg : (Op.eqGuardIn Op.maxDepth t .nilIface .nilIface).run P w = .ok false w := by
            unfold Op.maxDepth Op.eqGuardIn
            rw [runB (run_underlying hu w)]
            show (pure (!ms.isEmpty) : Sem Bool).run P w = _
            rw [hms]; rfl
          rw [runB hg]
          rfl
        have hms : nilLit ox = false → nilLit oy = false → ms.isEmpty = true := by
          intro h1 h2
          unfold ifaceOk at hok
          rw [hu] at hok
          simpa [h1, h2] using hok
        rcases hop with rfl | rfl <;> cases ox <;> cases oy <;> first | rfl | exact main (hms rfl rfl)
      · rcases hop with rfl | rfl <;>
          (unfold eqGuard
           simp only [Bool.not_true, Bool.false_eq_true, if_false]
           split
           · exact absurd ⟨rfl, rfl⟩ hni
           · exact absurd ⟨_, _, rfl, rfl⟩ hag
           · rfl)
  · cases op <;> first | rfl | (exfalso; exact hop (.inl rfl)) | (exfalso; exact hop (.inr rfl))

end
end Go.Dx
