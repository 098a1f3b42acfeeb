/-
  A map's keys: finding, putting, taking away.
-/
import Derived.Test.YtnlbchnlbpaflaaGreatDoorDxEq
set_option linter.unusedSimpArgs false
set_option linter.unusedVariables false
set_option linter.unusedSectionVars false
namespace Go.Dx

def KeyDesc (P : Program) (t : TypeId) : EK → Prop
  | .leaf l => leafP P t = some l
  | .flat ks => flatT P t = some ks ∧ ∃ fs, P.underlying t = some (.struct fs)
  | _ => False

section
variable {P : Program} {ρ : Ren} {w : World}

theorem keyP_desc {t : TypeId} {k : EK} (h : keyP P t = some k) : KeyDesc P t k := by
  unfold keyP at h
  split at h
  · rename_i l hl; cases h; exact hl
  · simp only [Option.map_eq_some_iff] at h
    obtain ⟨ks, hks, rfl⟩ := h
    refine ⟨hks, ?_⟩
    unfold flatT at hks
    split at hks
    · rename_i fs hu; exact ⟨fs, hu⟩
    · cases hks

theorem eqLeaf_same {k : LK} {u u' : AV} {x y : Value} (hx : RX ρ u [x]) (hy : RX ρ u' [y]) (h : eqLeaf k u u' = some true) : x = y ∧ ∀ n, Instr.sameBits n x y = true := by
  unfold eqLeaf at h
  split at h
  · split at h
    · rename_i hc
      subst hc
      simp only [Option.some.injEq, beq_iff_eq] at h
      subst h
      obtain ⟨_, rfl⟩ := hx.int_eq
      obtain ⟨_, rfl⟩ := hy.int_eq
      exact ⟨rfl, fun n => by cases n <;> simp [Instr.sameBits]⟩
    · cases h
  · simp only [Option.some.injEq, Bool.and_eq_true, beq_iff_eq] at h
    obtain ⟨rfl, rfl⟩ := h
    obtain ⟨_, rfl⟩ := hx.str_eq
    obtain ⟨_, rfl⟩ := hy.str_eq
    exact ⟨rfl, fun n => by cases n <;> simp [Instr.sameBits, beq_toListBytes]⟩
  · simp only [Option.some.injEq, beq_iff_eq] at h
    subst h
    rw [hx.bool_eq, hy.bool_eq]
    exact ⟨rfl, fun n => by cases n <;> simp [Instr.sameBits]⟩
  · cases h

theorem eqFlat_same : ∀ (ks : List LK) (u u' : AV) (xs ys : List Value), eqFlat ks u u' = some true → RX ρ u xs → RX ρ u' ys → xs = ys ∧ ∀ n, ((xs.zip ys).all fun (x, y) => Instr.sameBits n x y) = true := by
  intro ks
  induction ks with
  | nil =>
    intro u u' xs ys h hx hy
    cases u <;> cases u' <;> simp [eqFlat] at h
    cases hx; cases hy
    exact ⟨rfl, fun n => rfl⟩
  | cons k ks ih =>
    intro u u' xs ys h hx hy
    obtain ⟨a, r, c, s, e1, e2, hq⟩ := eqFlat_cons h
    subst e1 e2
    obtain ⟨x, xr, ex, hxa, hxr⟩ := hx
    obtain ⟨y, yr, ey, hya, hyr⟩ := hy
    rcases hq with ⟨hb, hq⟩ | ⟨_, hf⟩
    · obtain ⟨e, sb⟩ := eqLeaf_same hxa hya hb
      obtain ⟨e', sb'⟩ := ih r s xr yr hq hxr hyr
      rw [ex, ey, e, e']
      refine ⟨rfl, fun n => ?_⟩
      have h1 := sb n
      have h2 := sb' n
      rw [e] at h1
      rw [e'] at h2
      simp only [List.zip_cons_cons, List.all_cons, h1, Bool.true_and]
      exact h2
    · cases hf

theorem eqKey_same {k : EK} {u u' : AV} {x y : Value} (hx : RX ρ u [x]) (hy : RX ρ u' [y]) (h : eqKey k u u' = some true) : x = y ∧ Instr.sameBits 10000 x y = true := by
  unfold eqKey at h
  split at h
  · obtain ⟨h1, h2⟩ := eqLeaf_same hx hy h; exact ⟨h1, h2 _⟩
  · split at h
    · obtain ⟨xs, rfl, _, h1⟩ := hx.agg_eq
      obtain ⟨ys, rfl, _, h2⟩ := hy.agg_eq
      obtain ⟨e, sb⟩ := eqFlat_same _ _ _ _ _ h h1 h2
      have ea : xs = ys := by rw [← Array.toArray_toList (xs := xs), e, Array.toArray_toList]
      refine ⟨by rw [ea], ?_⟩
      unfold Instr.sameBits
      have := sb 9999
      subst ea
      simp only [beq_self_eq_true, Bool.true_and]
      exact this
    · cases h
  · cases h

/-- Comparing two keys. -/
theorem run_eqKey {t : TypeId} {k : EK} (hd : KeyDesc P t k) {u u' : AV} {x y : Value} {b : Bool} (hx : RX ρ u [x]) (hy : RX ρ u' [y]) (h : eqKey k u u' = some b) (w : World) :
    (Op.equal t x y).run P w = .ok b w := by
  unfold eqKey at h
  split at h
  · exact eqLeaf_rel hd hx hy h 9999 w
  · split at h
    · obtain ⟨xs, rfl, _, h1⟩ := hx.agg_eq
      obtain ⟨ys, rfl, _, h2⟩ := hy.agg_eq
      exact eqFlatT_rel hd.1 h1 h2 h 9998 w
    · cases h
  · cases h

theorem sameNow_leaf {t : TypeId} {l : LK} (hd : leafP P t = some l) {u u' : AV} {x y : Value} {b : Bool} (hx : RX ρ u [x]) (hy : RX ρ u' [y]) (h : eqLeaf l u u' = some b) :
    ∃ d, P.underlying t = some d ∧ Instr.sameNow d x y = some b := by
  unfold leafP at hd
  unfold eqLeaf at h
  split at h
  · split at h
    · rename_i c a c' b' hc
      subst hc
      cases h
      obtain ⟨_, rfl⟩ := hx.int_eq
      obtain ⟨_, rfl⟩ := hy.int_eq
      split at hd <;> cases hd
      rename_i hu
      exact ⟨_, hu, by simp [Instr.sameNow]⟩
    · cases h
  · cases h
    obtain ⟨h1, rfl⟩ := hx.str_eq
    obtain ⟨h2, rfl⟩ := hy.str_eq
    split at hd <;> cases hd
    rename_i hu
    refine ⟨_, hu, ?_⟩
    simp only [Instr.sameNow]
    rw [beq_toListBytes, eq_text h1 h2]
  · cases h
    rw [hx.bool_eq, hy.bool_eq]
    split at hd <;> cases hd
    rename_i hu
    exact ⟨_, hu, rfl⟩
  · cases h

/-- What finding a key comes to: the place of the first entry that has it. -/
def firstAt (k : EK) (x : AV) : ME → Option (Option Nat)
  | .nil => some none
  | .cons y _ _ r =>
    match eqKey k x y with
    | some true => some (some 0)
    | some false => (firstAt k x r).map fun o => o.map (· + 1)
    | none => none

def valAt (es : List MapEntry) (i : Nat) : Option Nat → Option (Nat × Value)
  | none => none
  | some j => (es[j]?).map fun e => (i + j, e.val)

theorem run_findAsking {t : TypeId} {k : EK} (hd : KeyDesc P t k) {x : AV} {kx : Value} (hx : RX ρ x [kx]) : ∀ (m : ME) (es : List MapEntry) (i : Nat) (o : Option Nat), MR ρ m es → firstAt k x m = some o →
    (Instr.findAsking t kx es i).run P w = .ok (valAt es i o) w ∧ (∀ j, o = some j → j < es.length ∧ ∃ e, es[j]? = some e ∧ e.key = kx ∧ Instr.sameBits 10000 e.key kx = true) := by
  intro m
  induction m with
  | nil => intro es i o hm ho; cases hm; simp [firstAt] at ho; subst ho; exact ⟨rfl, fun j hj => by cases hj⟩
  | cons y v b r ih =>
    intro es i o hm ho
    obtain ⟨e, es', rfl, h1, h2, h3, h4⟩ := hm
    simp only [firstAt] at ho
    split at ho
    · rename_i he
      cases ho
      obtain ⟨e1, e2⟩ := eqKey_same hx h1 he
      refine ⟨?_, ?_⟩
      · unfold Instr.findAsking
        rw [runB (run_eqKey hd hx h1 he w)]
        rfl
      · intro j hj
        cases hj
        exact ⟨by simp, e, rfl, e1.symm, by rw [← e1] at e2 ⊢; exact e2⟩
    · rename_i he
      simp only [Option.map_eq_some_iff] at ho
      obtain ⟨o', ho', rfl⟩ := ho
      obtain ⟨r1, r2⟩ := ih es' (i + 1) o' h4 ho'
      refine ⟨?_, ?_⟩
      · unfold Instr.findAsking
        rw [runB (run_eqKey hd hx h1 he w)]
        simp only [Bool.false_eq_true, if_false]
        rw [r1]
        cases o' with
        | none => rfl
        | some j => simp only [valAt, Option.map_some, List.getElem?_cons_succ]; congr 2; funext e; simp; omega
      · intro j hj
        cases o' with
        | none => cases hj
        | some j' =>
          cases hj
          obtain ⟨q1, e', q2, q3⟩ := r2 j' rfl
          exact ⟨by simp; omega, e', by simpa using q2, q3⟩
    · cases ho

theorem findNow_leaf {t : TypeId} {l : LK} (hd : leafP P t = some l) {d : TypeDesc} (hu : P.underlying t = some d) {x : AV} {kx : Value} (hx : RX ρ x [kx]) : ∀ (m : ME) (es : List MapEntry) (i : Nat) (o : Option Nat), MR ρ m es → firstAt (.leaf l) x m = some o →
    Instr.findNow d kx es i = some (valAt es i o) := by
  intro m
  induction m with
  | nil => intro es i o hm ho; cases hm; simp [firstAt] at ho; subst ho; rfl
  | cons y v b r ih =>
    intro es i o hm ho
    obtain ⟨e, es', rfl, h1, h2, h3, h4⟩ := hm
    simp only [firstAt] at ho
    split at ho
    · rename_i he
      cases ho
      obtain ⟨d', hu', hs⟩ := sameNow_leaf hd hx h1 he
      rw [hu] at hu'; cases hu'
      simp [Instr.findNow, hs, valAt]
    · rename_i he
      simp only [Option.map_eq_some_iff] at ho
      obtain ⟨o', ho', rfl⟩ := ho
      obtain ⟨d', hu', hs⟩ := sameNow_leaf hd hx h1 he
      rw [hu] at hu'; cases hu'
      simp only [Instr.findNow, hs]
      rw [ih es' (i + 1) o' h4 ho']
      cases o' with
      | none => rfl
      | some j => simp only [valAt, Option.map_some, List.getElem?_cons_succ]; congr 2; funext e; simp; omega
    · cases ho

theorem run_findKey {t : TypeId} {k : EK} (hd : KeyDesc P t k) {x : AV} {kx : Value} (hx : RX ρ x [kx]) {m : ME} {es : List MapEntry} {o : Option Nat} (hm : MR ρ m es) (ho : firstAt k x m = some o) (w : World) :
    (Instr.findKey t kx es).run P w = .ok (valAt es 0 o) w := by
  have ha := (run_findAsking (w := w) hd hx m es 0 o hm ho).1
  unfold Instr.findKey
  cases k with
  | leaf l =>
    have hd' : leafP P t = some l := hd
    have hu : ∃ d, P.underlying t = some d := by
      unfold leafP at hd'
      split at hd' <;> first | (cases hd'; done) | exact ⟨_, by assumption⟩
    obtain ⟨d, hu⟩ := hu
    rw [runB (run_underlying hu w), findNow_leaf hd' hu hx m es 0 o hm ho]
    rfl
  | flat ks =>
    obtain ⟨_, fs, hu⟩ := hd
    rw [runB (run_underlying hu w)]
    cases es with
    | nil =>
      cases m with
      | nil => simp [firstAt] at ho; subst ho; rfl
      | cons y v b r => obtain ⟨_, _, e, _⟩ := hm; cases e
    | cons e es' =>
      have : Instr.findNow (.struct fs) kx (e :: es') 0 = none := by
        simp only [Instr.findNow]
        have hn : ∀ a b, Instr.sameNow (.struct fs) a b = none := fun a b => by cases a <;> cases b <;> rfl
        rw [hn]
      rw [this]
      exact ha
  | _ => exact absurd hd (by simp [KeyDesc])

/-- Is a key one that can be one? -/
theorem run_checkLeaf {t : TypeId} {l : LK} (hd : leafP P t = some l) (e : Bool) (n : Nat) (kx : Value) (w : World) : (Instr.checkKey e (n + 1) t kx).run P w = .ok () w := by
  unfold leafP at hd
  unfold Instr.checkKey
  split at hd <;> first
    | (cases hd; done)
    | (rename_i hu; rw [runB (run_underlying hu w)]; rfl)

theorem run_checkFlat {t : TypeId} {fs : Array Field} {ks : List LK} (hu : P.underlying t = some (.struct fs)) (hf : flatP P fs.toList 0 = some ks) (e : Bool) (n : Nat) {xs : Array Value} (hl : ks.length ≤ xs.size) (w : World) :
    (Instr.checkKey e (n + 2) t (.agg xs)).run P w = .ok () w := by
  unfold Instr.checkKey
  rw [runB (run_underlying hu w)]
  simp only []
  rw [← Array.forIn_toList]
  have gen : ∀ (fs : List Field) (off : Nat) (ks : List LK), flatP P fs off = some ks → off + ks.length ≤ xs.size →
      (forIn fs PUnit.unit (fun f _ => if f.name ≠ "_" then do let a ← part f.type xs f.offset; Instr.checkKey e (n + 1) f.type a; pure (ForInStep.yield PUnit.unit) else pure (ForInStep.yield PUnit.unit)) : Sem PUnit).run P w = .ok PUnit.unit w := by
    intro fs
    induction fs with
    | nil => intro off ks _ _; rfl
    | cons f fs ih =>
      intro off ks hf hl
      simp only [flatP] at hf
      split at hf
      · cases hf
      · rename_i hc
        simp only [not_or, Decidable.not_not] at hc
        obtain ⟨hn, ho, hs⟩ := hc
        split at hf
        · cases hf
        · rename_i k hk
          split at hf
          · cases hf
          · rename_i ks' hks
            cases hf
            simp only [List.length_cons] at hl
            have gx : xs[f.offset]? = some xs[off] := by rw [ho]; simp
            rw [List.forIn_cons]
            simp only [ne_eq, hn, not_false_eq_true, if_true, Sem.run_bind, run_part1 (leaf_isAgg hk) gx w, Result.andThen_ok, run_checkLeaf hk e n _ w, Sem.run_pure]
            exact ih (off + 1) ks' hks (by omega)
  rw [runB (gen fs.toList 0 ks hf (by omega))]
  rfl

theorem eqFlat_len : ∀ (ks : List LK) (u u' : AV) (b : Bool), eqFlat ks u u' = some b → True := fun _ _ _ _ _ => trivial

/-- A key's form: as many leaves as its kind has. -/
theorem okFlat : ∀ (ks : List LK) (u : AV) (xs : List Value), (eqFlat ks u u).isSome = true → RX ρ u xs → (∀ k a, eqLeaf k a a ≠ some false) → ks.length = xs.length := by
  intro ks
  induction ks with
  | nil => intro u xs h hx _; cases u <;> simp [eqFlat] at h; cases hx; rfl
  | cons k ks ih =>
    intro u xs h hx hr
    obtain ⟨b, hb⟩ := Option.isSome_iff_exists.1 h
    obtain ⟨a, r, c, s, e1, e2, hq⟩ := eqFlat_cons hb
    subst e1
    cases e2
    obtain ⟨x, xr, rfl, _, hxr⟩ := hx
    rcases hq with ⟨_, hq⟩ | ⟨hf, _⟩
    · simp [ih r xr (by rw [hq]; rfl) hxr hr]
    · exact absurd hf (hr _ _)

theorem eqLeaf_refl (k : LK) (a : AV) : eqLeaf k a a ≠ some false := by
  cases k <;> cases a <;> simp [eqLeaf]

theorem run_checkKey {t : TypeId} {k : EK} (hd : KeyDesc P t k) {x : AV} {kx : Value} (hx : RX ρ x [kx]) (hok : okKey k x = true) (e : Bool) (w : World) : (Instr.checkKey e 10000 t kx).run P w = .ok () w := by
  cases k with
  | leaf l => exact run_checkLeaf hd e 9999 kx w
  | flat ks =>
    obtain ⟨hk, fs, hu⟩ := hd
    unfold okKey eqKey at hok
    cases x with
    | agg cs =>
      obtain ⟨xs, rfl, _, h1⟩ := hx.agg_eq
      have hf : flatP P fs.toList 0 = some ks := by
        unfold flatT at hk
        rw [hu] at hk
        simp only at hk
        split at hk
        · cases hk
        · exact hk
      have := okFlat ks _ _ hok h1 eqLeaf_refl
      exact run_checkFlat hu hf e 9998 (by rw [this]; simp) w
    | _ => cases hok
  | _ => exact absurd hd (by simp [KeyDesc])

/-! The deterministic semantics' own looking, by the first place. -/
theorem find_firstAt {k : EK} {x : AV} : ∀ {m : ME} {r : Option AV}, m.find k x = some r → ∃ o, firstAt k x m = some o ∧
    (∀ {es : List MapEntry}, MR ρ m es → (o = none ∧ r = none) ∨ ∃ j v e, o = some j ∧ r = some v ∧ es[j]? = some e ∧ RX ρ v [e.val]) := by
  intro m
  induction m with
  | nil => intro r h; simp [ME.find] at h; subst h; exact ⟨none, rfl, fun _ => .inl ⟨rfl, rfl⟩⟩
  | cons y v b rest ih =>
    intro r h
    simp only [ME.find] at h
    split at h
    · rename_i he
      cases h
      refine ⟨some 0, by simp [firstAt, he], fun hm => .inr ?_⟩
      obtain ⟨e, es', rfl, _, h2, _, _⟩ := hm
      exact ⟨0, v, e, rfl, rfl, rfl, h2⟩
    · rename_i he
      obtain ⟨o, ho, hres⟩ := ih h
      refine ⟨o.map (· + 1), by simp [firstAt, he, ho], fun hm => ?_⟩
      obtain ⟨e, es', rfl, _, h2, _, h4⟩ := hm
      rcases hres h4 with ⟨rfl, rfl⟩ | ⟨j, v', e', rfl, rfl, q1, q2⟩
      · exact .inl ⟨rfl, rfl⟩
      · exact .inr ⟨j + 1, v', e', rfl, rfl, by simpa using q1, q2⟩
    · cases h

theorem put_firstAt {k : EK} {x u : AV} {clock : Nat} : ∀ {m m' : ME} {fresh : Bool}, m.put k x u clock = some (m', fresh) → ∃ o, firstAt k x m = some o ∧
    (∀ {es : List MapEntry} {kx vx : Value}, MR ρ m es → RX ρ x [kx] → RX ρ u [vx] →
      (o = none ∧ fresh = true ∧ MR ρ m' (es ++ [⟨kx, vx, clock⟩])) ∨ ∃ j, o = some j ∧ fresh = false ∧ MR ρ m' (es.modify j fun e => { e with key := kx, val := vx })) := by
  intro m
  induction m with
  | nil =>
    intro m' fresh h
    simp [ME.put] at h
    obtain ⟨rfl, rfl⟩ := h
    refine ⟨none, rfl, fun hm hk hv => .inl ⟨rfl, rfl, ?_⟩⟩
    cases hm
    exact ⟨_, [], rfl, hk, hv, rfl, rfl⟩
  | cons y v b rest ih =>
    intro m' fresh h
    simp only [ME.put] at h
    split at h
    · rename_i he
      cases h
      refine ⟨some 0, by simp [firstAt, he], fun hm hk hv => .inr ⟨0, rfl, rfl, ?_⟩⟩
      obtain ⟨e, es', rfl, _, _, h3, h4⟩ := hm
      exact ⟨_, es', rfl, hk, hv, h3, h4⟩
    · rename_i he
      simp only [Option.map_eq_some_iff] at h
      obtain ⟨⟨m1, f1⟩, h1, e1⟩ := h
      cases e1
      obtain ⟨o, ho, hres⟩ := ih h1
      refine ⟨o.map (· + 1), by simp [firstAt, he, ho], fun hm hk hv => ?_⟩
      obtain ⟨e, es', rfl, q1, q2, q3, q4⟩ := hm
      rcases hres q4 hk hv with ⟨rfl, hf, hm'⟩ | ⟨j, rfl, hf, hm'⟩
      · exact .inl ⟨rfl, hf, e, _, rfl, q1, q2, q3, hm'⟩
      · exact .inr ⟨j + 1, rfl, hf, e, _, rfl, q1, q2, q3, hm'⟩
    · cases h

theorem del_firstAt {k : EK} {x : AV} : ∀ {m m' : ME}, m.del k x = some m' → ∃ o, firstAt k x m = some o ∧
    (∀ {es : List MapEntry}, MR ρ m es → (o = none ∧ MR ρ m' es) ∨ ∃ j, o = some j ∧ MR ρ m' (es.eraseIdx j)) := by
  intro m
  induction m with
  | nil => intro m' h; simp [ME.del] at h; subst h; exact ⟨none, rfl, fun hm => .inl ⟨rfl, hm⟩⟩
  | cons y v b rest ih =>
    intro m' h
    simp only [ME.del] at h
    split at h
    · rename_i he
      cases h
      refine ⟨some 0, by simp [firstAt, he], fun hm => .inr ⟨0, rfl, ?_⟩⟩
      obtain ⟨e, es', rfl, _, _, _, h4⟩ := hm
      exact h4
    · rename_i he
      simp only [Option.map_eq_some_iff] at h
      obtain ⟨m1, h1, rfl⟩ := h
      obtain ⟨o, ho, hres⟩ := ih h1
      refine ⟨o.map (· + 1), by simp [firstAt, he, ho], fun hm => ?_⟩
      obtain ⟨e, es', rfl, q1, q2, q3, q4⟩ := hm
      rcases hres q4 with ⟨rfl, hm'⟩ | ⟨j, rfl, hm'⟩
      · exact .inl ⟨rfl, e, _, rfl, q1, q2, q3, hm'⟩
      · exact .inr ⟨j + 1, rfl, e, _, rfl, q1, q2, q3, hm'⟩
    · cases h

theorem MR.size : ∀ {m : ME} {es : List MapEntry}, MR ρ m es → m.size = es.length := by
  intro m
  induction m with
  | nil => intro es h; cases h; rfl
  | cons k v b r ih => intro es h; obtain ⟨e, es', rfl, _, _, _, h4⟩ := h; simp [ME.size, ih h4]

end
end Go.Dx
