/-
  Texts as numbers: putting them together, cutting, comparing.
-/
import Derived.Test.YtpmfhinbmnaomaaGreatDoorDxOpA
set_option linter.unusedSimpArgs false
set_option linter.unusedVariables false
set_option linter.unusedSectionVars false
namespace Go.Dx

theorem byteAt_low (n m l j : Nat) (h : j < l) : byteAt (n + m * 256 ^ l) j = byteAt n j := by
  unfold byteAt
  have e : 256 ^ l = 256 ^ (l - j - 1) * 256 * 256 ^ j := by rw [← Nat.pow_succ, ← Nat.pow_add]; congr 1; omega
  rw [e, ← Nat.mul_assoc, Nat.add_mul_div_right _ _ (Nat.pow_pos (by omega)), ← Nat.mul_assoc]
  omega
theorem byteAt_high (n m l j : Nat) (h : n < 256 ^ l) : byteAt (n + m * 256 ^ l) (l + j) = byteAt m j := by
  unfold byteAt
  rw [Nat.pow_add, ← Nat.div_div_eq_div_mul, Nat.add_mul_div_right _ _ (Nat.pow_pos (by omega)), Nat.div_eq_of_lt h, Nat.zero_add]
theorem byteAt_cut (n l k j : Nat) (h : j < k) : byteAt (n / 256 ^ l % 256 ^ k) j = byteAt n (l + j) := by
  unfold byteAt
  rw [Nat.pow_add, ← Nat.div_div_eq_div_mul]
  generalize n / 256 ^ l = m
  have e : 256 ^ k = 256 ^ j * (256 * 256 ^ (k - j - 1)) := by rw [← Nat.pow_succ', ← Nat.pow_add]; congr 1; omega
  rw [e, Nat.mod_mul_right_div_self]
  exact Nat.mod_mul_right_mod _ _ _

theorem bytesL_ext {n i len : Nat} {l : List UInt8} (hl : l.length = len) (h : ∀ j, j < len → l[j]? = some (UInt8.ofNat (byteAt n (i + j)))) : bytesL n i len = l := by
  apply List.ext_getElem?
  intro j
  by_cases hj : j < len
  · rw [bytesL_get n len i j hj, h j hj]
  · rw [List.getElem?_eq_none (by rw [bytesL_length]; omega), List.getElem?_eq_none (by omega)]

theorem bytesL_append (n m l k : Nat) (h : n < 256 ^ l) : bytesL (n + m * 256 ^ l) 0 (l + k) = bytesL n 0 l ++ bytesL m 0 k := by
  apply bytesL_ext
  · simp [bytesL_length]
  · intro j hj
    by_cases hl : j < l
    · rw [List.getElem?_append_left (by rw [bytesL_length]; exact hl), bytesL_get n l 0 j hl, Nat.zero_add, byteAt_low n m l j hl]
    · rw [List.getElem?_append_right (by rw [bytesL_length]; omega), bytesL_length, bytesL_get m k 0 (j - l) (by omega), Nat.zero_add, Nat.zero_add]
      have := byteAt_high n m l (j - l) h
      rw [show l + (j - l) = j by omega] at this
      rw [this]

theorem textOf_append (n m l k : Nat) (h : n < 256 ^ l) : textOf l n ++ textOf k m = textOf (l + k) (n + m * 256 ^ l) := by
  unfold textOf
  rw [bytesL_append n m l k h]
  apply ByteArray.ext
  simp [ByteArray.data_append]

theorem cat_lt {n m l k : Nat} (h : n < 256 ^ l) (h2 : m < 256 ^ k) : n + m * 256 ^ l < 256 ^ (l + k) := by
  rw [Nat.pow_add, Nat.mul_comm (256 ^ l)]
  have : (m + 1) * 256 ^ l ≤ 256 ^ k * 256 ^ l := Nat.mul_le_mul_right _ h2
  rw [Nat.add_mul] at this
  omega

theorem textOf_data (l n : Nat) : (textOf l n).data = (bytesL n 0 l).toArray := rfl

theorem textOf_extract (len n l h : Nat) (h1 : l ≤ h) (h2 : h ≤ len) : (textOf len n).extract l h = textOf (h - l) (n / 256 ^ l % 256 ^ (h - l)) := by
  apply ByteArray.ext
  rw [ByteArray.data_extract, textOf_data, textOf_data]
  rw [List.extract_toArray]
  congr 1
  symm
  apply bytesL_ext
  · simp [bytesL_length]; omega
  · intro j hj
    rw [byteAt_cut n l (h - l) (0 + j) (by omega)]
    rw [List.extract_eq_take_drop, List.getElem?_take_of_lt (by omega), List.getElem?_drop, bytesL_get n len 0 (l + j) (by omega)]
    simp

theorem num_bytesL (n : Nat) : ∀ (len i : Nat), numOfBytes (bytesL n i len) = n / 256 ^ i % 256 ^ len := by
  intro len
  induction len with
  | zero => intro i; simp [bytesL, numOfBytes, Nat.mod_one]
  | succ len ih =>
    intro i
    simp only [bytesL, numOfBytes]
    rw [ih (i + 1)]
    have hb : (UInt8.ofNat (byteAt n i)).toNat = byteAt n i := by
      rw [UInt8.toNat_ofNat']; exact Nat.mod_eq_of_lt (byteAt_lt n i)
    rw [hb]
    unfold byteAt
    rw [Nat.pow_succ 256 i, ← Nat.div_div_eq_div_mul]
    generalize n / 256 ^ i = m
    rw [Nat.pow_succ', Nat.mod_mul]

theorem textOf_inj {l n k m : Nat} (hn : n < 256 ^ l) (hm : m < 256 ^ k) (h : textOf l n = textOf k m) : l = k ∧ n = m := by
  have e : l = k := by rw [← textOf_size l n, h, textOf_size]
  subst e
  have h' : bytesL n 0 l = bytesL m 0 l := by
    have := congrArg (fun s => s.data.toList) h
    simpa [textOf] using this
  have := congrArg numOfBytes h'
  rw [num_bytesL, num_bytesL] at this
  simp [Nat.mod_eq_of_lt hn, Nat.mod_eq_of_lt hm] at this
  exact ⟨rfl, this⟩

theorem textOf_toList (l n : Nat) : (textOf l n).toList = bytesL n 0 l := by rw [ByteArray.toList_eq]; rfl

theorem eq_text {l n k m : Nat} (hn : n < 256 ^ l) (hm : m < 256 ^ k) : ((textOf l n).toList == (textOf k m).toList) = (l == k && n == m) := by
  rw [Bool.eq_iff_iff]
  simp only [beq_iff_eq, Bool.and_eq_true]
  constructor
  · intro h
    apply textOf_inj hn hm
    rw [textOf_toList, textOf_toList] at h
    unfold textOf
    rw [h]
  · rintro ⟨rfl, rfl⟩; rfl

theorem less_text (l1 n1 l2 n2 : Nat) : ∀ (d i : Nat), l2 < d + i → i ≤ l1 → i ≤ l2 → Op.bytesLess (bytesL n1 i (l1 - i)) (bytesL n2 i (l2 - i)) = strLess l1 n1 l2 n2 d i := by
  intro d
  induction d with
  | zero => intro i h h1 h2; omega
  | succ d ih =>
    intro i h h1 h2
    unfold strLess
    by_cases e2 : i ≥ l2
    · rw [if_pos e2, show l2 - i = 0 by omega]; simp [bytesL, Op.bytesLess]
    · rw [if_neg e2]
      by_cases e1 : i ≥ l1
      · rw [if_pos e1, show l1 - i = 0 by omega, show l2 - i = (l2 - i - 1) + 1 by omega]; simp [bytesL, Op.bytesLess]
      · rw [if_neg e1, show l1 - i = (l1 - (i + 1)) + 1 by omega, show l2 - i = (l2 - (i + 1)) + 1 by omega]
        simp only [bytesL, Op.bytesLess]
        rw [ih (i + 1) (by omega) (by omega) (by omega)]
        have ha := byteAt_lt n1 i
        have hb := byteAt_lt n2 i
        generalize byteAt n1 i = x at *
        generalize byteAt n2 i = y at *
        have hlt : decide (UInt8.ofNat x < UInt8.ofNat y) = decide (x < y) := by
          rw [decide_eq_decide, UInt8.lt_iff_toNat_lt, UInt8.toNat_ofNat', UInt8.toNat_ofNat', Nat.mod_eq_of_lt ha, Nat.mod_eq_of_lt hb]
        have heq : (UInt8.ofNat x == UInt8.ofNat y) = decide (x = y) := by
          rw [Bool.eq_iff_iff]
          simp only [beq_iff_eq, decide_eq_true_eq]
          constructor
          · intro h
            have := congrArg UInt8.toNat h
            rwa [UInt8.toNat_ofNat', UInt8.toNat_ofNat', Nat.mod_eq_of_lt ha, Nat.mod_eq_of_lt hb] at this
          · rintro rfl; rfl
        rw [hlt, heq]
        by_cases c1 : x < y
        · simp [c1]
        · by_cases c2 : x = y
          · simp [c2]
          · simp [c1, c2]

theorem run_scmp {P : Program} {op : BinOp} {l n k m : Nat} {b : Bool} (t : TypeId) (hn : n < 256 ^ l) (hm : m < 256 ^ k) (h : cmpS op l n k m = some b) (w : World) :
    (binOp op t (.string (textOf l n)) (.string (textOf k m))).run P w = .ok (.bool b) w := by
  have hl : Op.bytesLess (textOf l n).toList (textOf k m).toList = strLess l n k m (k + 1) 0 := by
    rw [textOf_toList, textOf_toList]
    exact less_text l n k m (k + 1) 0 (by omega) (by omega) (by omega)
  have he := eq_text hn hm
  have pr : ∀ z : Value, (pure z : Sem Value).run P w = .ok z w := fun z => rfl
  unfold cmpS at h
  cases op <;> simp only at h <;> first
    | (cases h; done)
    | (cases h; simp only [binOp, Op.stringOp, hl, he, pr]; done)

theorem run_cat {P : Program} {l n k m : Nat} (t : TypeId) (hn : n < 256 ^ l) (h : l + k ≤ most) (w : World) :
    (binOp .add t (.string (textOf l n)) (.string (textOf k m))).run P w = .ok (.string (textOf (l + k) (n + m * 256 ^ l))) w := by
  have : ¬ (((textOf l n).size + (textOf k m).size : Nat) : Int) > IntKind.i64.max := by
    rw [textOf_size, textOf_size]
    unfold most at h
    have : IntKind.i64.max = 9223372036854775807 := by decide
    rw [this]
    omega
  simp only [binOp, Op.stringOp, if_neg this]
  rw [textOf_append _ _ _ _ hn]
  rfl

/-- A byte of a text. -/
theorem textOf_get {l n i : Nat} (h : i < l) : (textOf l n)[i]? = some (UInt8.ofNat (byteAt n i)) := by
  have : (textOf l n)[i]? = (textOf l n).data[i]? := by
    have hs : (textOf l n).size = l := textOf_size l n
    rw [getElem?_pos (textOf l n) i (by rw [hs]; exact h)]
    rw [getElem?_pos (textOf l n).data i (by show i < (textOf l n).size; rw [hs]; exact h)]
    rfl
  rw [this, textOf_data]
  simp only [List.getElem?_toArray]
  rw [bytesL_get n l 0 i h, Nat.zero_add]

end Go.Dx
