/-
  Operands and constants: the deterministic semantics' values stand for the model's.
-/
import Derived.Test.YtpmfhinbmnaomaaGreatDoorDxMem
set_option linter.unusedSimpArgs false
set_option linter.unusedVariables false
set_option linter.unusedSectionVars false
namespace Go.Dx

theorem byteAt_cons (b m i : Nat) (hb : b < 256) : byteAt (b + 256 * m) (i + 1) = byteAt m i := by
  unfold byteAt
  have : (b + 256 * m) / 256 ^ (i + 1) = m / 256 ^ i := by
    rw [Nat.pow_succ, Nat.mul_comm (256 ^ i) 256, ← Nat.div_div_eq_div_mul]
    congr 1
    omega
  rw [this]
theorem byteAt_zero (b m : Nat) (hb : b < 256) : byteAt (b + 256 * m) 0 = b := by unfold byteAt; simp; omega

theorem bytesL_cons (b m : Nat) (hb : b < 256) : ∀ (len i : Nat), bytesL (b + 256 * m) (i + 1) len = bytesL m i len := by
  intro len
  induction len with
  | zero => intro i; rfl
  | succ len ih => intro i; simp only [bytesL]; rw [byteAt_cons _ _ _ hb, ih]

theorem bytesL_num : ∀ (l : List UInt8), bytesL (numOfBytes l) 0 l.length = l := by
  intro l
  induction l with
  | nil => rfl
  | cons b r ih =>
    have hb : b.toNat < 256 := b.toNat_lt
    simp only [numOfBytes, List.length_cons, bytesL]
    rw [byteAt_zero _ _ hb, Nat.zero_add, bytesL_cons _ _ hb, ih]
    simp

theorem numOfBytes_lt : ∀ (l : List UInt8), numOfBytes l < 256 ^ l.length := by
  intro l
  induction l with
  | nil => simp [numOfBytes]
  | cons b r ih =>
    have hb : b.toNat < 256 := b.toNat_lt
    simp only [numOfBytes, List.length_cons, Nat.pow_succ]
    omega

theorem textOf_num (s : ByteArray) : textOf s.size (numOfBytes s.data.toList) = s := by
  have : s.size = s.data.toList.length := (Array.length_toList).symm
  unfold textOf
  rw [this, bytesL_num]

theorem kind_code (k : IntKind) : kindOf (codeOf k) = k := by cases k <;> rfl
theorem code_lt (k : IntKind) : codeOf k < 8 := by cases k <;> decide
theorem code_kind {c : Nat} (h : c < 8) : codeOf (kindOf c) = c := by
  match c, h with
  | 0, _ | 1, _ | 2, _ | 3, _ | 4, _ | 5, _ | 6, _ | 7, _ => rfl
theorem kind_inj {c d : Nat} (hc : c < 8) (hd : d < 8) (h : kindOf c = kindOf d) : c = d := by
  rw [← code_kind hc, ← code_kind hd, h]

theorem listA_rel {ρ : Ren} {f : Value → Option AV} (h : ∀ v a, f v = some a → RX ρ a [v]) : ∀ (l : List Value) (as : List AV), mapO f l = some as → RX ρ (listA as) l ∧ (listA as).isList = true := by
  intro l
  induction l with
  | nil => intro as e; simp [mapO] at e; subst e; exact ⟨rfl, rfl⟩
  | cons v r ih =>
    intro as e
    simp only [mapO] at e
    split at e
    · cases e
    · rename_i b hb
      split at e
      · cases e
      · rename_i bs hbs
        cases e
        obtain ⟨h1, h2⟩ := ih bs hbs
        exact ⟨⟨v, r, rfl, h v b hb, h1⟩, h2⟩

/-- Is a function's name no block's? -/
theorem ofValue_rel (ρ : Ren) : ∀ (d : Nat) (v : Value) (a : AV), ofValue d v = some a → RX ρ a [v] := by
  intro d
  induction d with
  | zero => intro v a h; simp [ofValue] at h
  | succ d ih =>
    intro v a h
    unfold ofValue at h
    split at h
    · cases h; rfl
    · rename_i k n; cases h; exact ⟨code_lt k, by rw [kind_code]⟩
    · rename_i s; cases h
      refine ⟨?_, by rw [textOf_num]⟩
      have := numOfBytes_lt s.data.toList
      rwa [show s.data.toList.length = s.size from Array.length_toList] at this
    · cases h; rfl
    · cases h; rfl
    · cases h; rfl
    · rename_i fn x y
      split at h
      · rename_i as bs ha hb
        cases h
        obtain ⟨h1, i1⟩ := listA_rel ih _ _ ha
        obtain ⟨h2, i2⟩ := listA_rel ih _ _ hb
        exact ⟨x, y, fn, rfl, rfl, i1, i2, h1, h2⟩
      · cases h
    · cases h; rfl
    · rename_i t x
      simp only [Option.map_eq_some_iff] at h
      obtain ⟨b, hb, rfl⟩ := h
      exact ⟨x, rfl, ih _ _ hb⟩
    · cases h; rfl
    · rename_i cs
      simp only [Option.map_eq_some_iff] at h
      obtain ⟨b, hb, rfl⟩ := h
      obtain ⟨h1, h2⟩ := listA_rel ih _ _ hb
      exact ⟨cs, rfl, h2, h1⟩
    · rename_i cs
      simp only [Option.map_eq_some_iff] at h
      obtain ⟨b, hb, rfl⟩ := h
      obtain ⟨h1, h2⟩ := listA_rel ih _ _ hb
      exact ⟨cs, rfl, h2, h1⟩
    · cases h

theorem constA_rel (ρ : Ren) {v : Value} {a : AV} (h : constA v = some a) : RX ρ a [v] := ofValue_rel ρ 8 v a h

/-! Slots. -/
structure FRel (C : Ctx) (ρ : Ren) (fr : Tr AV) (tm : Array Value) : Prop where
  size : C.n ≤ tm.size
  far : ∀ t v, C.far t = true → fr.get (key (t + 1)) = some v → ∃ x, tm[t]? = some x ∧ RX ρ v [x]

def LRel (ρ : Ren) (ns : List (Option Tmp)) (ls : AV) (tm : Array Value) : Prop :=
  ∀ t j v, nameAt ns t = some j → ls.nth j = some v → ∃ x, tm[t]? = some x ∧ RX ρ v [x]

theorem FRel.mono {C : Ctx} {ρ ρ' : Ren} {fr : Tr AV} {tm : Array Value} (h : FRel C ρ fr tm) (e : Ext ρ ρ') : FRel C ρ' fr tm :=
  ⟨h.size, fun t v h1 h2 => by obtain ⟨x, hx, hr⟩ := h.far t v h1 h2; exact ⟨x, hx, hr.mono e⟩⟩
theorem LRel.mono {ρ ρ' : Ren} {ns : List (Option Tmp)} {ls : AV} {tm : Array Value} (h : LRel ρ ns ls tm) (e : Ext ρ ρ') : LRel ρ' ns ls tm :=
  fun t j v h1 h2 => by obtain ⟨x, hx, hr⟩ := h t j v h1 h2; exact ⟨x, hx, hr.mono e⟩

theorem eval_tmp {a : Act} {t : Tmp} {x : Value} (h : a.tmps[t]? = some x) : a.eval (.tmp t) = x := by simp [Act.eval, h]

section
variable {C : Ctx} {ρ : Ren} {ns : List (Option Tmp)} {ls : AV} {fr : Tr AV} {a : Act}

theorem opd_rel (hF : FRel C ρ fr a.tmps) (hL : LRel ρ ns ls a.tmps) (hG : ∀ g, g < C.ng → ∃ sz, ρ (key g) = some ⟨g, 0, sz⟩) {x : Operand} {y : Opd} {v : AV} (h : opd C ns x = some y) (hv : y.ev ls fr = some v) :
    RX ρ v [a.eval x] := by
  cases x with
  | tmp t =>
    simp only [opd] at h
    split at h
    · rename_i j hj
      cases h
      obtain ⟨x, hx, hr⟩ := hL t j v hj hv
      rw [eval_tmp hx]; exact hr
    · split at h
      · rename_i hf
        cases h
        obtain ⟨x, hx, hr⟩ := hF.far t v hf hv
        rw [eval_tmp hx]; exact hr
      · cases h
  | const u =>
    simp only [opd, Option.map_eq_some_iff] at h
    obtain ⟨b, hb, rfl⟩ := h
    simp [Opd.ev] at hv
    subst hv
    exact constA_rel ρ hb
  | global g =>
    simp only [opd] at h
    split at h
    · rename_i hg
      cases h
      simp [Opd.ev] at hv
      subst hv
      obtain ⟨sz, hs⟩ := hG g hg
      exact ⟨_, hs, rfl⟩
    · cases h
  | func f =>
    simp only [opd] at h
    cases h
    simp [Opd.ev] at hv
    subst hv
    exact ⟨#[], #[], f, rfl, rfl, rfl, rfl, rfl, rfl⟩

theorem opds_rel (hF : FRel C ρ fr a.tmps) (hL : LRel ρ ns ls a.tmps) (hG : ∀ g, g < C.ng → ∃ sz, ρ (key g) = some ⟨g, 0, sz⟩) : ∀ {xs : List Operand} {ys : Opds} {vs : AV}, opds C ns xs = some ys → ys.ev ls fr = some vs →
    RX ρ vs (xs.map a.eval) ∧ vs.isList = true := by
  intro xs
  induction xs with
  | nil => intro ys vs h hv; simp [opds] at h; subst h; simp [Opds.ev] at hv; subst hv; exact ⟨rfl, rfl⟩
  | cons x r ih =>
    intro ys vs h hv
    simp only [opds] at h
    split at h
    · rename_i b c hb hc
      cases h
      simp only [Opds.ev, Option.bind_eq_bind, Option.bind_eq_some_iff] at hv
      obtain ⟨v, hv1, us, hv2, e⟩ := hv
      cases e
      obtain ⟨h1, h2⟩ := ih hc hv2
      exact ⟨⟨a.eval x, r.map a.eval, rfl, opd_rel hF hL hG hb hv1, h1⟩, h2⟩
    · cases h

end
end Go.Dx
