/-
  An array of two integers that came in.
-/
import Derived.Test.YthpnhdopheofcaaDxArg
set_option linter.unusedSimpArgs false
set_option linter.unusedVariables false
namespace Go.Dx
open Go.ChangeShapes Go.WideShapes
theorem pair_arg {P : Program} {w : World} {r : Reach} {b0 : Nat} {t e : TypeId} {n : Nat} {k : IntKind} {v : Value} (ht : P.underlying t = some (.array n e)) (he : P.underlying e = some (.int k)) (hct : P.cellTypes P.depth t = some [e, e]) (hsz : P.cellsOf t = 2) (hv : Value.okWide P w r b0 t v) :
    ∃ a b, v = .agg #[.int k a, .int k b] ∧ (Lit.int k a).wf = true ∧ (Lit.int k b).wf = true := by
  simp only [Value.okWide, ht] at hv
  obtain ⟨cs, rfl, hs, ts, h1, _, h2⟩ := hv
  rw [hct] at h1
  cases h1
  rw [hsz] at hs
  obtain ⟨l⟩ := cs
  have hl : l.length = 2 := hs
  rcases l with _ | ⟨c0, _ | ⟨c1, _ | ⟨c2, l⟩⟩⟩
  · cases hl
  · cases hl
  · have key : ∀ (i : Nat) (c : Value), (⟨[c0, c1]⟩ : Array Value)[i]? = some c → ∃ a, c = Value.int k a ∧ (Lit.int k a).wf = true := by
      intro i c hc
      obtain ⟨u, hu, ho⟩ := h2 i c hc
      have hu' : u = e := by
        have : i % 2 = 0 ∨ i % 2 = 1 := by omega
        rcases this with h | h <;> (simp only [List.length_cons, List.length_nil] at hu; simp [h] at hu; exact hu.symm)
      subst hu'
      simp only [Cell.okWide, he] at ho
      cases c <;> simp_all [Cell.ok]
      simp only [Lit.wf, Bool.and_eq_true, decide_eq_true_eq]
      exact ho.2
    obtain ⟨a, rfl, ha⟩ := key 0 c0 rfl
    obtain ⟨b, rfl, hb⟩ := key 1 c1 rfl
    exact ⟨a, b, rfl, ha, hb⟩
  · cases hl

/-- A struct of two integers that came in. -/
theorem struct_arg {P : Program} {w : World} {r : Reach} {b0 : Nat} {t e0 e1 : TypeId} {fs : Array Field} {k : IntKind} {v : Value} (ht : P.underlying t = some (.struct fs)) (he0 : P.underlying e0 = some (.int k)) (he1 : P.underlying e1 = some (.int k)) (hct : P.cellTypes P.depth t = some [e0, e1]) (hsz : P.cellsOf t = 2) (hv : Value.okWide P w r b0 t v) :
    ∃ a b, v = .agg #[.int k a, .int k b] ∧ (Lit.int k a).wf = true ∧ (Lit.int k b).wf = true := by
  simp only [Value.okWide, ht] at hv
  obtain ⟨cs, rfl, hs, ts, h1, _, h2⟩ := hv
  rw [hct] at h1
  cases h1
  rw [hsz] at hs
  obtain ⟨l⟩ := cs
  have hl : l.length = 2 := hs
  rcases l with _ | ⟨c0, _ | ⟨c1, _ | ⟨c2, l⟩⟩⟩
  · cases hl
  · cases hl
  · have key : ∀ (i : Nat) (c : Value), (⟨[c0, c1]⟩ : Array Value)[i]? = some c → ∃ a, c = Value.int k a ∧ (Lit.int k a).wf = true := by
      intro i c hc
      obtain ⟨u, hu, ho⟩ := h2 i c hc
      have hu' : P.underlying u = some (.int k) := by
        have : i % 2 = 0 ∨ i % 2 = 1 := by omega
        rcases this with h | h <;> (simp only [List.length_cons, List.length_nil] at hu; simp [h] at hu; subst hu; assumption)
      simp only [Cell.okWide, hu'] at ho
      cases c <;> simp_all [Cell.ok]
      simp only [Lit.wf, Bool.and_eq_true, decide_eq_true_eq]
      exact ho.2
    obtain ⟨a, rfl, ha⟩ := key 0 c0 rfl
    obtain ⟨b, rfl, hb⟩ := key 1 c1 rfl
    exact ⟨a, b, rfl, ha, hb⟩
  · cases hl
end Go.Dx
