import Derived.Test.YthpnhdopheofcaaDxArg
import Derived.Test.YthpnhdopheofcaaDxLu
set_option linter.unusedSimpArgs false
set_option linter.unusedVariables false
namespace Go.Dx
variable {W : World} {v : Value} {sv : AV} {len : Nat} {xs : List (List AV)} {ks : List CK}
theorem ArgSl.slLen (h : ArgSl ks W v sv len xs) : Go.Dx.slLen sv = some len := by
 rcases h with ⟨_, rfl, rfl, rfl⟩ | ⟨b, o, cap, _, rfl, _⟩ <;> rfl
theorem ArgSl.le (h : ArgSl ks W v sv len xs) : len ≤ xs.length := by
 rcases h with ⟨_, rfl, rfl, rfl⟩ | ⟨b, o, cap, _, rfl, h1, h2, _⟩ <;> simp_all
theorem ArgSl.max (h : ArgSl ks W v sv len xs) : xs.length ≤ maxLen := by
 rcases h with ⟨_, rfl, rfl, rfl⟩ | ⟨b, o, cap, _, rfl, h1, h2, h3, _⟩ <;> simp_all
theorem ArgSl.okRows (h : ArgSl ks W v sv len xs) : ∀ x ∈ xs, okRow ks x := by
 rcases h with ⟨_, rfl, rfl, rfl⟩ | ⟨b, o, cap, _, rfl, h1, h2, h3, h4, _⟩
 ·simp
 ·exact h4
theorem rows_ro {M : Mem} {p : Pos} {size m c : Nat} {xs : List (List AV)} (hp : M.get p = some (.ro xs.flatten)) (hx : ∀ x ∈ xs, x.length = size) (hm : m ≤ xs.length) : SlIs M (.slice p 0 m c) size (xs.take m) := by
 have hl : (xs.take m).length = m := by simp; omega
 refine ⟨by rw [hl]; rfl, fun x h => hx x (List.mem_of_mem_take h), fun _ => ⟨p, 0, by rw [hl]; rfl, fun i hi => ?_⟩⟩
 rw [hl] at hi
 have hi' : i < xs.length := by omega
 rw [hp, List.getElem?_take, if_pos hi, List.getElem?_eq_getElem hi']
 have hf := flatten_row hx (List.getElem?_eq_getElem hi')
 have hlen := flatten_len hx
 have hb : i * size + size ≤ xs.flatten.length := by
  rw [hlen]
  calc i * size + size = (i + 1) * size := by rw [Nat.succ_mul]
   _ ≤ xs.length * size := Nat.mul_le_mul_right _ hi'
 simp only [MB.cellsAt, Nat.zero_add]
 rw [if_pos hb, hf]
theorem ArgSl.rows (h : ArgSl ks W v sv len xs) : SlIs (argM (argO sv xs)) sv ks.length (xs.take len) := by
 have hx : ∀ x ∈ xs, x.length = ks.length := fun x hx => okRow_length (h.okRows x hx)
 rcases h with ⟨_, rfl, rfl, rfl⟩ | ⟨b, o, cap, _, rfl, h1, h2, h3, h4, _⟩
 ·exact SlIs.nil _ _
 ·exact rows_ro rfl hx (by omega)
theorem ArgSl.cut (h : ArgSl ks W v sv len xs) {m : Nat} (hm : m ≤ len) : ∃ a, sliceM (argM (argO sv xs)) ks.length none (some m) none sv = some a ∧ SlIs (argM (argO sv xs)) a ks.length (xs.take m) := by
 have hx : ∀ x ∈ xs, x.length = ks.length := fun x hx => okRow_length (h.okRows x hx)
 rcases h with ⟨_, rfl, rfl, rfl⟩ | ⟨b, o, cap, _, rfl, h1, h2, h3, h4, _⟩
 ·have : m = 0 := by omega
  subst this
  exact ⟨.nilslice, rfl, SlIs.nil _ _⟩
 ·have hb : sliceBounds len cap none (some m) none = some (0, m, cap) := by
   unfold sliceBounds; simp; omega
  simp only [sliceM, hb, Option.map_some]
  by_cases hc : cap = 0
  ·have : m = 0 := by omega
   subst this
   rw [if_pos hc]
   exact ⟨_, rfl, rows_ro rfl hx (by omega)⟩
  ·rw [if_neg hc]
   refine ⟨_, rfl, ?_⟩
   rw [Nat.zero_mul, Nat.add_zero, Nat.sub_zero, Nat.sub_zero]
   exact rows_ro rfl hx (by omega)
end Go.Dx
