import Derived.Test.YthpnhdopheofcaaDxCut
set_option linter.unusedSimpArgs false
set_option linter.unusedVariables false
namespace Go.Dx
theorem SlO.copyTail {M : Mem} {own : Own} {t : Tag} {v : AV} {size : Nat} {L : List (List AV)} (h : SlO M own t v size L) (hs0 : 0 < size) {i k : Nat} (hk : 0 < k) (hi : i + k ≤ L.length) :
  ∃ d s p b, sliceM M size (some i) none none v = some d ∧ sliceM M size (some (L.length - k)) none none v = some s ∧ copyO M size d s = some (.int 3 k, M.put p b) ∧ own p = some t ∧ (∃ b0, M.get p = some b0) ∧
   SlO (M.put p b) own t v size (L.take i ++ L.drop (L.length - k) ++ L.drop (i + k)) := by
 have hs := h.size
 have hcl := h.cells
 obtain ⟨h1, ⟨rfl, rfl⟩ | ⟨q, rfl, rfl⟩ | ⟨q, pre, rest, op, h2, h3, h4, h5⟩⟩ := h
 ·simp at hi; omega
 ·simp at hi; omega
 ·have hfl : ∀ X : List (List AV), (∀ x ∈ X, x.length = size) → X.flatten.length = X.length * size := fun X hX => flatten_len hX
  have hsrcrows : ∀ x ∈ L.drop (L.length - k), x.length = size := fun x hx => hs x (List.mem_of_mem_drop hx)
  have hsl : (L.drop (L.length - k)).flatten.length = k * size := by rw [hfl _ hsrcrows, List.length_drop]; congr 1; omega
  have hcells : MB.cellsAt (M.get q) (pre.length + (L.length - k) * size) (k * size) = some (L.drop (L.length - k)).flatten := by
   refine cellsAt_window (pre := pre ++ (L.take (L.length - k)).flatten) (post := rest) (op := op) ?_ ?_ hsl.symm
   ·rw [h3]
    conv => lhs; rw [← List.take_append_drop (L.length - k) L]
    simp only [List.flatten_append, List.append_assoc]
   ·rw [List.length_append, flat_split hs (by omega)]
  have hall : (L.drop (L.length - k)).flatten.all isCell = true := by
   rw [List.all_eq_true]
   intro a ha
   obtain ⟨x, hx, hax⟩ := List.mem_flatten.1 ha
   exact List.all_eq_true.1 (hcl x (List.mem_of_mem_drop hx)) a hax
  have htake : (L.take i).flatten.length = i * size := flat_split hs (by omega)
  have hmid : ((L.drop i).take k).flatten.length = k * size := by
   rw [hfl _ (fun x hx => hs x (List.mem_of_mem_drop (List.mem_of_mem_take hx))), List.length_take, List.length_drop]; congr 1; omega
  have e1 : pre ++ L.flatten ++ rest = (pre ++ (L.take i).flatten) ++ ((L.drop i).take k).flatten ++ ((L.drop (i + k)).flatten ++ rest) := by
   conv => lhs; rw [← List.take_append_drop i L, ← List.take_append_drop k (L.drop i), List.drop_drop]
   simp only [List.flatten_append, List.append_assoc]
  have e2 : pre ++ (L.take i ++ L.drop (L.length - k) ++ L.drop (i + k)).flatten ++ rest = (pre ++ (L.take i).flatten) ++ (L.drop (L.length - k)).flatten ++ ((L.drop (i + k)).flatten ++ rest) := by simp only [List.flatten_append, List.append_assoc]
  have hplen : (pre ++ (L.take i).flatten).length = pre.length + i * size := by rw [List.length_append, htake]
  have hst : M.store q (pre.length + i * size) (L.drop (L.length - k)).flatten = some (M.put q (.cells (pre ++ (L.take i ++ L.drop (L.length - k) ++ L.drop (i + k)).flatten ++ rest) op)) := by
   unfold Mem.store
   rw [h3]
   simp only
   rw [if_pos ⟨by rw [hsl, e1]; simp only [List.length_append] at hplen ⊢; rw [hmid]; omega, hall⟩, e1, over_window hplen.symm (by rw [hsl, hmid]), e2]
  have hlen' : (L.take i ++ L.drop (L.length - k) ++ L.drop (i + k)).length = L.length := by simp only [List.length_append, List.length_take, List.length_drop]; omega
  have hrow : ∀ x ∈ L.take i ++ L.drop (L.length - k) ++ L.drop (i + k), x.length = size ∧ x.all isCell = true := fun x hx => by
   rcases List.mem_append.1 hx with hx | hx
   ·rcases List.mem_append.1 hx with hx | hx
    ·exact h1 x (List.mem_of_mem_take hx)
    ·exact h1 x (List.mem_of_mem_drop hx)
   ·exact h1 x (List.mem_of_mem_drop hx)
  have hmin : Nat.min k (L.length - i) = k := Nat.min_eq_left (by omega)
  have hks : ¬ (k * size = 0) := Nat.ne_of_gt (Nat.mul_pos hk hs0)
  have hne : ¬ ((L.drop (L.length - k)).flatten.length = 0) := by rw [hsl]; exact hks
  have hown : SlO (M.put q (.cells (pre ++ (L.take i ++ L.drop (L.length - k) ++ L.drop (i + k)).flatten ++ rest) op)) own t v size (L.take i ++ L.drop (L.length - k) ++ L.drop (i + k)) :=
   ⟨hrow, .inr (.inr ⟨q, pre, rest, op, h2, by simp [Mem.put], h4, by rw [hlen']; exact h5⟩)⟩
  have hcells' : M.cellsAt q (pre.length + (L.length - k) * size) (k * size) = some (L.drop (L.length - k)).flatten := hcells
  have hkk : L.length - (L.length - k) = k := by omega
  rcases h5 with ⟨ho, rfl⟩ | ⟨cap, rfl, hc1, hc2⟩
  ·subst ho
   have hop : M.openSize q = some (pre ++ L.flatten ++ rest).length := by unfold Mem.openSize; rw [h3]
   have hcap : L.length ≤ ((pre ++ L.flatten ++ rest).length - pre.length) / size := by
    rw [Nat.le_div_iff_mul_le hs0, List.length_append, List.length_append, hfl L hs]; omega
   have hb : ∀ j, j ≤ L.length → sliceBounds L.length (((pre ++ L.flatten ++ rest).length - pre.length) / size) (some j) none none = some (j, L.length, ((pre ++ L.flatten ++ rest).length - pre.length) / size) := fun j hj => by
    simp only [sliceBounds, Option.getD_some, Option.getD_none]; rw [if_pos ⟨Nat.le_refl _, hcap, hj⟩]
   refine ⟨.oslice q (pre.length + i * size) (L.length - i) size, .oslice q (pre.length + (L.length - k) * size) k size, q, _, ?_, ?_, ?_, h2, ⟨_, h3⟩, hown⟩
   ·simp only [sliceM, ne_eq, not_true_eq_false, if_false, hop, hb i (by omega), Option.map_some]
   ·simp only [sliceM, ne_eq, not_true_eq_false, if_false, hop, hb (L.length - k) (by omega), Option.map_some, hkk]
   ·have hz : ¬ (L.length - i = 0) := by omega
    simp only [copyO, lenOf, Option.bind_some, hmin, srcM, firstM, if_neg hks, hcells', putAtM, if_neg hne, if_neg hz, hst, Option.map_some]
  ·have hb : ∀ j, j ≤ L.length → sliceBounds L.length cap (some j) none none = some (j, L.length, cap) := fun j hj => by
    simp only [sliceBounds, Option.getD_some, Option.getD_none]; rw [if_pos ⟨Nat.le_refl _, hc1, hj⟩]
   have n1 : ¬ (cap = i) := by omega
   have n2 : ¬ (cap = L.length - k) := by omega
   refine ⟨.slice q (pre.length + i * size) (L.length - i) (cap - i), .slice q (pre.length + (L.length - k) * size) k (cap - (L.length - k)), q, _, ?_, ?_, ?_, h2, ⟨_, h3⟩, hown⟩
   ·simp only [sliceM, hb i (by omega), Option.map_some, if_neg n1]
   ·simp only [sliceM, hb (L.length - k) (by omega), Option.map_some, if_neg n2, hkk]
   ·simp only [copyO, lenOf, Option.bind_some, hmin, srcM, firstM, if_neg hks, hcells', putAtM, if_neg hne, hst, Option.map_some]
end Go.Dx
