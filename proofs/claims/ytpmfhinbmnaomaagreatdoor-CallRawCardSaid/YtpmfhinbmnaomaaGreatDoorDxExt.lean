/-
  Functions of Go's library that have no text: what they do.
-/
import Derived.Test.YtpmfhinbmnaomaaGreatDoorDxOpd
import Derived.Laws.Externs
import Derived.Lib.Bytealg
import Derived.KernelRfl
set_option linter.unusedSimpArgs false
set_option linter.unusedVariables false
set_option linter.unusedSectionVars false
namespace Go.Dx
variable {P : Program} {ρ : Ren}

theorem find_indexByte {fn : Func} (h : fn.name = "internal/bytealg.IndexByteString") : Extern.find fn = some Extern.BytealgIndexByte.indexByte := by
  have h1 : Extern.allGenericRows.lookup "internal/bytealg.IndexByteString" = none := by kernel_rfl
  have h2 : Extern.allTypedRows.lookup "internal/bytealg.IndexByteString" = none := by kernel_rfl
  have h3 : Extern.allRows.lookup "internal/bytealg.IndexByteString" = some Extern.BytealgIndexByte.indexByte := by kernel_rfl
  unfold Extern.find
  simp only [h, h1, h2, h3]
  rfl

theorem idxByteF_eq (n c : Nat) (hc : c < 256) : ∀ (l i : Nat), idxByteF n c l i = if Lib.indexByte (bytesL n i l) c.toUInt8 = -1 then -1 else Lib.indexByte (bytesL n i l) c.toUInt8 + i := by
  intro l
  induction l with
  | zero => intro i; rfl
  | succ l ih =>
    intro i
    have hb := byteAt_lt n i
    have hbc : (UInt8.ofNat (byteAt n i) == c.toUInt8) = decide (byteAt n i = c) := by
      rw [Bool.eq_iff_iff]
      simp only [beq_iff_eq, decide_eq_true_eq]
      constructor
      · intro h
        have := congrArg UInt8.toNat h
        simpa [UInt8.toNat_ofNat', Nat.mod_eq_of_lt hb, Nat.mod_eq_of_lt hc] using this
      · rintro rfl; rfl
    simp only [idxByteF, bytesL, Lib.indexByte, hbc]
    by_cases h : byteAt n i = c
    · simp [h]
    · have hge : ∀ (L : List UInt8) (b : UInt8), -1 ≤ Lib.indexByte L b := by
        intro L b
        induction L with
        | nil => simp [Lib.indexByte]
        | cons x L ihL =>
          simp only [Lib.indexByte]
          split
          · omega
          · split <;> omega
      have := hge (bytesL n (i + 1) l) c.toUInt8
      simp only [h, decide_false, Bool.false_eq_true, if_false]
      rw [ih (i + 1)]
      by_cases h2 : Lib.indexByte (bytesL n (i + 1) l) c.toUInt8 = -1
      · simp [h2]
      · have h3 : (Lib.indexByte (bytesL n (i + 1) l) c.toUInt8 == -1) = false := by simpa using h2
        have h4 : Lib.indexByte (bytesL n (i + 1) l) c.toUInt8 + 1 ≠ -1 := by omega
        rw [if_neg h2, h3]
        simp only [Bool.false_eq_true, if_false]
        rw [if_neg h4]
        omega
end Go.Dx
