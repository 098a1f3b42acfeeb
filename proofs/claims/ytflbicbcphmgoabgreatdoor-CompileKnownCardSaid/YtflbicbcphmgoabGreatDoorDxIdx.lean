/-
  strings.Index: what stands for it (natIndex) is what it answers, whatever internal/bytealg.MaxLen holds.
-/
import Derived.Test.YtflbicbcphmgoabGreatDoorDxCode
import Derived.Shelf.Strings.Search2
set_option linter.unusedSimpArgs false
set_option linter.unusedVariables false
set_option linter.unusedSectionVars false
set_option linter.unusedVariables false
set_option linter.unusedSimpArgs false
namespace Go.Dx
open Go.Proofs
variable {P : Program}

theorem byteAt_div (n i : Nat) : byteAt n (i + 1) = byteAt (n / 256) i := by
  unfold byteAt
  rw [Nat.div_div_eq_div_mul, Nat.pow_succ']
theorem bytesL_div (n : Nat) : ∀ (l i : Nat), bytesL n (i + 1) l = bytesL (n / 256) i l := by
  intro l
  induction l with
  | zero => intro i; rfl
  | succ l ih => intro i; simp only [bytesL]; rw [byteAt_div, ih]
theorem bytesL_ext2 {n m k : Nat} (h : ∀ j, j < k → byteAt n j = byteAt m j) : bytesL n 0 k = bytesL m 0 k := by
  apply List.ext_getElem?
  intro j
  by_cases hj : j < k
  · rw [bytesL_get n k 0 j hj, bytesL_get m k 0 j hj, Nat.zero_add, h j hj]
  · rw [List.getElem?_eq_none (by rw [bytesL_length]; omega), List.getElem?_eq_none (by rw [bytesL_length]; omega)]
theorem bytesL_mod (n k : Nat) : bytesL (n % 256 ^ k) 0 k = bytesL n 0 k := bytesL_ext2 fun j hj => by
  have := byteAt_cut n 0 k j hj
  rwa [Nat.pow_zero, Nat.div_one, Nat.zero_add] at this
theorem bytesL_take {n k l : Nat} (h : k ≤ l) : (bytesL n 0 l).take k = bytesL n 0 k := by
  apply List.ext_getElem?
  intro j
  by_cases hj : j < k
  · rw [List.getElem?_take_of_lt hj, bytesL_get n l 0 j (by omega), bytesL_get n k 0 j hj]
  · rw [List.getElem?_eq_none (by rw [List.length_take]; omega), List.getElem?_eq_none (by rw [bytesL_length]; omega)]
theorem pre_num {k x l n : Nat} (hx : x < 256 ^ k) : (bytesL x 0 k).isPrefixOf (bytesL n 0 l) = (Nat.ble k l && Nat.beq (n % 256 ^ k) x) := by
  rw [Bool.eq_iff_iff, List.isPrefixOf_iff_prefix, List.prefix_iff_eq_take, bytesL_length, Bool.and_eq_true, Nat.ble_eq, Nat.beq_eq]
  constructor
  · intro h
    have hk : k ≤ l := by
      have := congrArg List.length h
      rw [bytesL_length, List.length_take, bytesL_length] at this
      omega
    refine ⟨hk, ?_⟩
    rw [bytesL_take hk] at h
    have := congrArg numOfBytes h
    rw [num_bytesL, num_bytesL, Nat.pow_zero, Nat.div_one, Nat.div_one, Nat.mod_eq_of_lt hx] at this
    exact this.symm
  · rintro ⟨hk, e⟩
    rw [bytesL_take hk, ← e, bytesL_mod]

/-- Where the text x of k bytes begins in the one of l bytes, n; i: how many bytes lie ahead of it. -/
def idxFrom (k x : Nat) : Nat → Nat → Nat → Int
  | 0, _, i => match Nat.beq k 0 with
    | true => Int.ofNat i
    | false => -1
  | l + 1, n, i => match Nat.ble k (l + 1) && Nat.beq (n % 256 ^ k) x with
    | true => Int.ofNat i
    | false => idxFrom k x l (n / 256) (i + 1)

theorem idx_eq {k x : Nat} (hx : x < 256 ^ k) : ∀ (l n i : Nat), idxFrom k x l n i = if Lib.index (bytesL n 0 l) (bytesL x 0 k) = -1 then -1 else Lib.index (bytesL n 0 l) (bytesL x 0 k) + i := by
  intro l
  induction l with
  | zero =>
    intro n i
    unfold idxFrom
    simp only [bytesL, Lib.index]
    cases k with
    | zero => simp [bytesL]
    | succ k => show (-1 : Int) = _; simp [bytesL]
  | succ l ih =>
    intro n i
    unfold idxFrom
    have hb : bytesL n 0 (l + 1) = UInt8.ofNat (byteAt n 0) :: bytesL (n / 256) 0 l := by
      simp only [bytesL]
      rw [bytesL_div n l 0]
    have hp := pre_num (l := l + 1) (n := n) hx
    rw [hb] at hp ⊢
    have hi : Lib.index (UInt8.ofNat (byteAt n 0) :: bytesL (n / 256) 0 l) (bytesL x 0 k) = if (Nat.ble k (l + 1) && Nat.beq (n % 256 ^ k) x) = true then 0 else if Lib.index (bytesL (n / 256) 0 l) (bytesL x 0 k) == -1 then -1 else Lib.index (bytesL (n / 256) 0 l) (bytesL x 0 k) + 1 := by
      rw [← hp]
      rfl
    rw [hi]
    cases hc : (Nat.ble k (l + 1) && Nat.beq (n % 256 ^ k) x) with
    | true => simp
    | false =>
      simp only [Bool.false_eq_true, if_false]
      rw [ih]
      have hge := Lib.index_ge (bytesL (n / 256) 0 l) (bytesL x 0 k)
      by_cases h : Lib.index (bytesL (n / 256) 0 l) (bytesL x 0 k) = -1
      · simp [h]
      · have h2 : (Lib.index (bytesL (n / 256) 0 l) (bytesL x 0 k) == -1) = false := by simpa using h
        rw [if_neg h, h2]
        simp only [Bool.false_eq_true, if_false]
        rw [if_neg (by omega)]
        omega

theorem idx_eq0 {k x : Nat} (hx : x < 256 ^ k) (l n : Nat) : idxFrom k x l n 0 = Lib.index (bytesL n 0 l) (bytesL x 0 k) := by
  rw [idx_eq hx]
  split
  · rename_i h; exact h.symm
  · omega

/-- strings.Index; g: internal/bytealg.MaxLen. -/
def natIndex (g : Nat) (gs : AV) (H : Heap) : Option AV :=
  match gs with
  | .cons (.str l n) (.cons (.str k x) .nil) =>
    match H.get (key g) with
    | some (.ro t) =>
      match t.get (key 0) with
      | some (.int 3 _) =>
        match Nat.ble l 4294967280 with
        | true => some (.int 3 (idxFrom k x l n 0))
        | false => none
      | _ => none
    | _ => none
  | _ => none

theorem natIndex_ok {τ : Go.Shelf.Ren} (L : Lays.n219 P τ) {f g ng : Nat} (hf : f = τ.f 219) (hg : τ.g 1 = g) (hng : g < ng) (hfn : ∃ fn, P.funcs[f]? = some fn ∧ fn.body.isSome = true ∧ fn.name ≠ "runtime.NumGoroutine") : NatOk P ng f (natIndex g) := by
  refine ⟨hfn, ?_⟩
  subst hf
  intro gs v H hi ρ w args hH hR hl
  unfold natIndex at hi
  split at hi
  · rename_i l n k x
    obtain ⟨x1, r1, e1, ⟨h1, hx1⟩, x2, r2, e2, ⟨h2, hx2⟩, e3⟩ := hR
    cases hx1
    cases hx2
    subst e3 e2
    have hargs : args = #[.string (textOf l n), .string (textOf k x)] := by
      apply Array.ext'
      rw [e1]
    subst hargs
    split at hi
    · rename_i t ht
      split at hi
      · rename_i m hm
        split at hi
        · rename_i hle
          cases hi
          obtain ⟨sz, hsz⟩ := hH.globals g hng
          obtain ⟨c, e, fr, hc, hcs⟩ := hH.objs (key g) _ _ ht (by simp) hsz
          obtain ⟨y, hy, ⟨_, hry⟩, _⟩ := hcs 0 _ hm
          cases hry
          have hcell : w.cell? ⟨g, 0, none⟩ = some (.int .i64 m) := by
            have hy : c[0]? = some (.int (kindOf 3) m) := by simpa using hy
            rw [cell_eq hc]
            exact hy
          have hle := Nat.le_of_ble_eq_true hle
          refine (Any.stringslite_Index L (textOf l n) (textOf k x) m w (by rw [textOf_size]; omega) (by rw [hg]; exact hcell)).mono ?_
          rintro e w' ⟨rfl, rfl⟩
          refine ⟨_, rfl, ⟨by decide, ?_⟩, rfl, rfl, rfl, Nat.le_refl _, fun _ _ => rfl⟩
          rw [idx_eq0 h2]
          rfl
        · cases hi
      · cases hi
    · cases hi
  · cases hi
end Go.Dx
