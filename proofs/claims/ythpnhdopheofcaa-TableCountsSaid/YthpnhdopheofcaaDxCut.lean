import Derived.Test.YthpnhdopheofcaaDxSo
set_option linter.unusedSimpArgs false
set_option linter.unusedVariables false
namespace Go.Dx
def CutSl (M : Mem) (sv : AV) (size : Nat) (L : List (List AV)) : Prop :=
 SlIs M sv size L ∧ (∀ p off n c, sv = .slice p off n c → n ≤ c) ∧ (∀ p off n s, sv = .oslice p off n s → s = size ∧ ∃ N, M.openSize p = some N ∧ off + L.length * size ≤ N) ∧ (sv = .nilslice → L = []) ∧ (slLen sv = some L.length)
theorem SlO.cutSl {M : Mem} {own : Own} {t : Tag} {v : AV} {size : Nat} {L : List (List AV)} (h : SlO M own t v size L) : CutSl M v size L := by
 have hr := h.rows
 have hs := h.size
 have hl := h.len
 refine ⟨hr, ?_, ?_, ?_, hl⟩
 ·rintro p off n c rfl
  obtain ⟨_, ⟨h, _⟩ | ⟨q, h, rfl⟩ | ⟨q, pre, rest, op, h2, h3, h4, ⟨_, h5⟩ | ⟨cap, h5, h6, _⟩⟩⟩ := h
  ·cases h
  ·cases h; exact Nat.le_refl _
  ·cases h5
  ·cases h5; exact h6
 ·rintro p off n s rfl
  obtain ⟨_, ⟨h, _⟩ | ⟨q, h, rfl⟩ | ⟨q, pre, rest, op, h2, h3, h4, ⟨h6, h5⟩ | ⟨cap, h5, h6, _⟩⟩⟩ := h
  ·cases h
  ·cases h
  ·cases h5
   subst h6
   refine ⟨rfl, (pre ++ L.flatten ++ rest).length, ?_, ?_⟩
   ·unfold Mem.openSize; rw [h3]
   ·rw [List.length_append, List.length_append, flatten_len hs]; omega
  ·cases h5
 ·rintro rfl
  obtain ⟨_, ⟨_, h⟩ | ⟨q, h, _⟩ | ⟨q, pre, rest, op, h2, h3, h4, ⟨h6, h5⟩ | ⟨cap, h5, h6, _⟩⟩⟩ := h
  ·exact h
  ·cases h
  ·cases h5
  ·cases h5
theorem slIs_sub {M : Mem} {p : Pos} {off size lo hi c : Nat} {L : List (List AV)} (hs : ∀ x ∈ L, x.length = size) (hrow : ∀ i, i < L.length → MB.cellsAt (M.get p) (off + i * size) size = L[i]?) (h1 : lo ≤ hi) (h2 : hi ≤ L.length) :
  SlIs M (.slice p (off + lo * size) (hi - lo) c) size ((L.take hi).drop lo) := by
 have hl : ((L.take hi).drop lo).length = hi - lo := by rw [List.length_drop, List.length_take]; omega
 refine ⟨by rw [hl]; rfl, fun x hx => hs x (List.mem_of_mem_take (List.mem_of_mem_drop hx)), fun _ => ⟨p, off + lo * size, by rw [hl]; rfl, fun i hi' => ?_⟩⟩
 rw [hl] at hi'
 have e : off + lo * size + i * size = off + (lo + i) * size := by rw [Nat.add_mul]; omega
 rw [e, hrow (lo + i) (by omega), List.getElem?_drop, List.getElem?_take, if_pos (by omega)]
theorem CutSl.cut3 {M : Mem} {sv : AV} {size : Nat} {L : List (List AV)} (h : CutSl M sv size L) (hs0 : 0 < size) {lo hi : Nat} (h1 : lo ≤ hi) (h2 : hi ≤ L.length) (hne : L ≠ []) :
  ∃ v', sliceM M size (some lo) (some hi) (some hi) sv = some v' ∧ SlIs M v' size ((L.take hi).drop lo) ∧ isCell v' = true := by
 obtain ⟨⟨hl, hs, hr⟩, k1, k2, k3, k5⟩ := h
 obtain ⟨p, off, hp, hrow⟩ := hr hne
 have hpos : 0 < L.length := List.length_pos_iff.2 hne
 cases sv <;> simp only [slAt, reduceCtorEq] at hp
 ·rename_i q o n c
  cases hp
  have hc := k1 _ _ _ _ rfl
  have hb : sliceBounds L.length c (some lo) (some hi) (some hi) = some (lo, hi, hi) := by
   simp only [sliceBounds, Option.getD_some]; rw [if_pos ⟨by omega, Nat.le_refl _, h1⟩]
  by_cases e : hi = lo
  ·subst e
   refine ⟨.slice p off 0 0, by simp only [sliceM, hb, Option.map_some, if_true], ?_, rfl⟩
   have e2 : (L.take hi).drop hi = [] := List.drop_eq_nil_of_le (by rw [List.length_take]; omega)
   rw [e2]
   exact ⟨rfl, fun x hx => (by cases hx), fun h => absurd rfl h⟩
  ·exact ⟨_, by simp only [sliceM, hb, Option.map_some]; rw [if_neg e], slIs_sub hs hrow h1 h2, rfl⟩
 ·rename_i q o n s
  cases hp
  obtain ⟨rfl, N, g1, g2⟩ := k2 _ _ _ _ rfl
  have g3 : L.length ≤ (N - off) / s := by rw [Nat.le_div_iff_mul_le hs0]; omega
  have hb : sliceBounds L.length ((N - off) / s) (some lo) (some hi) (some hi) = some (lo, hi, hi) := by
   simp only [sliceBounds, Option.getD_some]; rw [if_pos ⟨by omega, Nat.le_refl _, h1⟩]
  by_cases e : hi = lo
  ·subst e
   refine ⟨.slice p off 0 0, by simp only [sliceM, ne_eq, not_true_eq_false, if_false, g1, hb, if_true]; rw [if_neg (by omega)], ?_, rfl⟩
   have e2 : (L.take hi).drop hi = [] := List.drop_eq_nil_of_le (by rw [List.length_take]; omega)
   rw [e2]
   exact ⟨rfl, fun x hx => (by cases hx), fun h => absurd rfl h⟩
  ·exact ⟨_, by simp only [sliceM, ne_eq, not_true_eq_false, if_false, g1, hb]; rw [if_neg e], slIs_sub hs hrow h1 h2, rfl⟩
theorem CutSl.quiet {M M' : Mem} {sv : AV} {size : Nat} {L : List (List AV)} (h : CutSl M sv size L) (hb : But (fun _ => False) M M') : CutSl M' sv size L := by
 obtain ⟨h1, h2, h3, h4, h5⟩ := h
 refine ⟨h1.old hb.old, h2, fun p off n s e => ?_, h4, h5⟩
 obtain ⟨k1, N, k2, k3⟩ := h3 p off n s e
 refine ⟨k1, N, ?_, k3⟩
 unfold Mem.openSize at k2 ⊢
 cases hg : M.get p with
 | none => rw [hg] at k2; cases k2
 | some b => rw [hb.get _ _ id hg]; rw [hg] at k2; exact k2
end Go.Dx
