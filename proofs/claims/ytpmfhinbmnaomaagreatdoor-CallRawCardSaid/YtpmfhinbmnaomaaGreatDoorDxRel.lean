/-
  How the deterministic semantics' values and memory stand to the model's.
-/
import Derived.Test.YtpmfhinbmnaomaaGreatDoorDxComp
set_option linter.unusedSimpArgs false
set_option linter.unusedVariables false
set_option linter.unusedSectionVars false
namespace Go.Dx

/-! Trees. -/
namespace Tr
variable {α : Type}
theorem get_leaf (p : Pos) : (Tr.leaf : Tr α).get p = none := by cases p <;> rfl

theorem get_set_same (p : Pos) (x : α) (t : Tr α) : (t.set p x).get p = some x := by
  induction p generalizing t with
  | h => cases t <;> rfl
  | o p ih => cases t <;> simp [set, get, ih]
  | i p ih => cases t <;> simp [set, get, ih]

theorem get_set_ne {p q : Pos} (h : q ≠ p) (x : α) (t : Tr α) : (t.set p x).get q = t.get q := by
  induction p generalizing q t with
  | h => cases q <;> cases t <;> first | exact absurd rfl h | simp [set, get, get_leaf]
  | o p ih =>
    cases q with
    | h => cases t <;> rfl
    | o q =>
      have : q ≠ p := fun e => h (e ▸ rfl)
      cases t <;> simp [set, get, ih this, get_leaf]
    | i q => cases t <;> simp [set, get, get_leaf]
  | i p ih =>
    cases q with
    | h => cases t <;> rfl
    | i q =>
      have : q ≠ p := fun e => h (e ▸ rfl)
      cases t <;> simp [set, get, ih this, get_leaf]
    | o q => cases t <;> simp [set, get, get_leaf]

theorem get_set (p q : Pos) (x : α) (t : Tr α) : (t.set p x).get q = if q = p then some x else t.get q := by
  by_cases h : q = p
  · subst h; simp [get_set_same]
  · simp [h, get_set_ne h]
end Tr

/-! Keys. -/
theorem Pos.num_pos (p : Pos) : 0 < p.num := by induction p <;> simp [Pos.num]; omega
theorem Pos.num_inj : ∀ {p q : Pos}, p.num = q.num → p = q := by
  intro p
  induction p with
  | h => intro q h; cases q with
    | h => rfl
    | o q => have := q.num_pos; simp [num] at h; omega
    | i q => have := q.num_pos; simp [num] at h; omega
  | o p ih => intro q h; have := p.num_pos; cases q with
    | h => simp [num] at h; omega
    | o q => simp only [num] at h; rw [ih (q := q) (by omega)]
    | i q => simp [num] at h; omega
  | i p ih => intro q h; have := p.num_pos; cases q with
    | h => simp [num] at h; omega
    | o q => simp [num] at h; omega
    | i q => simp only [num] at h; rw [ih (q := q) (by omega)]
theorem Pos.num_succ (p : Pos) : p.succ.num = p.num + 1 := by
  induction p with
  | h => rfl
  | o p ih => simp [succ, num]
  | i p ih => simp [succ, num, ih]; omega
theorem Pos.num_ofFuel : ∀ (f n : Nat), n ≤ f → 0 < n → (Pos.ofFuel f n).num = n := by
  intro f
  induction f with
  | zero => intro n h h0; omega
  | succ f ih =>
    intro n h h0
    unfold Pos.ofFuel
    split
    · simp [num]; omega
    · split
      · simp only [num]; rw [ih (n / 2) (by omega) (by omega)]; omega
      · simp only [num]; rw [ih (n / 2) (by omega) (by omega)]; omega
theorem num_key (n : Nat) : (key n).num = n + 1 := Pos.num_ofFuel _ _ (Nat.le_refl _) (by omega)
theorem key_inj {m n : Nat} (h : key m = key n) : m = n := by
  have := congrArg Pos.num h
  rw [num_key, num_key] at this
  omega
theorem key_ne {m n : Nat} (h : m ≠ n) : key m ≠ key n := fun e => h (key_inj e)
theorem key_num (p : Pos) : key (p.num - 1) = p := Pos.num_inj (by rw [num_key]; have := p.num_pos; omega)

/-! Texts. -/
/-- The bytes of a text. -/
def bytesL (n : Nat) : Nat → Nat → List UInt8
  | _, 0 => []
  | i, len + 1 => UInt8.ofNat (byteAt n i) :: bytesL n (i + 1) len
def textOf (len n : Nat) : ByteArray := ⟨(bytesL n 0 len).toArray⟩

theorem bytesL_length (n : Nat) : ∀ (i len : Nat), (bytesL n i len).length = len := by
  intro i len
  induction len generalizing i with
  | zero => rfl
  | succ len ih => simp [bytesL, ih]
theorem textOf_size (len n : Nat) : (textOf len n).size = len := by
  show (bytesL n 0 len).toArray.size = len
  simp [bytesL_length]
theorem bytesL_get (n : Nat) : ∀ (len i j : Nat), j < len → (bytesL n i len)[j]? = some (UInt8.ofNat (byteAt n (i + j))) := by
  intro len
  induction len with
  | zero => intro i j h; omega
  | succ len ih =>
    intro i j h
    cases j with
    | zero => simp [bytesL]
    | succ j => simp only [bytesL, List.getElem?_cons_succ]; rw [ih (i + 1) j (by omega)]; congr 2; congr 1; omega
theorem byteAt_lt (n i : Nat) : byteAt n i < 256 := Nat.mod_lt _ (by omega)

/-! Values. -/
structure Loc where
  b : Nat
  base : Nat
  sz : Nat

abbrev Ren := Pos → Option Loc

/-- A value stands for a model's value (a list of one), a list of values for a list. -/
def RX (ρ : Ren) : AV → List Value → Prop
  | .nil, l => l = []
  | .cons a r, l => ∃ x xs, l = x :: xs ∧ RX ρ a [x] ∧ RX ρ r xs
  | .sym p lo hi, l => ∃ L, ρ p = some L ∧ lo ≤ (L.base : Int) - L.sz ∧ (L.base : Int) - L.sz ≤ hi ∧ l = [.int (kindOf 3) ((L.base : Int) - L.sz)]
  | .any, l => ∃ x, l = [x]
  | .bool b, l => l = [.bool b]
  | .int c n, l => c < 8 ∧ l = [.int (kindOf c) n]
  | .str len n, l => n < 256 ^ len ∧ l = [.string (textOf len n)]
  | .ptr p off, l => ∃ L, ρ p = some L ∧ l = [.pointer (some ⟨L.b, L.base + off, none⟩)]
  | .nilptr, l => l = [.pointer none]
  | .slice p off len cap, l => ∃ L, ρ p = some L ∧ len ≤ cap ∧ l = [.slice (some ⟨L.b, L.base + off, none⟩) len cap]
  | .oslice p off len s, l => ∃ L, ρ p = some L ∧
      ((∃ cap, L.base + off + cap * s = L.sz ∧ len ≤ cap ∧ l = [.slice (some ⟨L.b, L.base + off, none⟩) len cap]) ∨
       (len = 0 ∧ L.base + off = L.sz ∧ ∃ o, l = [.slice (some ⟨L.b, o, none⟩) 0 0]))
  | .nilslice, l => l = [.slice none 0 0]
  | .map p, l => ∃ L, ρ p = some L ∧ l = [.map (some L.b)]
  | .nilmap, l => l = [.map none]
  | .func fn a b, l => ∃ x y f, fn = .func f ∧ l = [.func fn x y] ∧ a.isList = true ∧ b.isList = true ∧ RX ρ a x.toList ∧ RX ρ b y.toList
  | .nilfunc, l => l = [.nilFunc]
  | .iface t v, l => ∃ x, l = [.iface t x] ∧ RX ρ v [x]
  | .niliface, l => l = [.nilIface]
  | .agg cs, l => ∃ x, l = [.agg x] ∧ cs.isList = true ∧ RX ρ cs x.toList
  | .tuple cs, l => ∃ x, l = [.tuple x] ∧ cs.isList = true ∧ RX ρ cs x.toList
  | .yield p, l => ∃ L, ρ p = some L ∧ l = [.func (.yield L.b) #[] #[]]

def Ext (ρ ρ' : Ren) : Prop := ∀ p L, ρ p = some L → ρ' p = some L

theorem Ext.refl (ρ : Ren) : Ext ρ ρ := fun _ _ h => h
theorem Ext.trans {a b c : Ren} (h : Ext a b) (k : Ext b c) : Ext a c := fun p L e => k p L (h p L e)

theorem RX.mono {ρ ρ' : Ren} (h : Ext ρ ρ') : ∀ {v : AV} {l : List Value}, RX ρ v l → RX ρ' v l := by
  intro v
  induction v with
  | nil => intro l hl; exact hl
  | cons a r iha ihr =>
    intro l hl
    obtain ⟨x, xs, e, ha, hr⟩ := hl
    exact ⟨x, xs, e, iha ha, ihr hr⟩
  | sym p lo hi => intro l hl; obtain ⟨L, e, h2⟩ := hl; exact ⟨L, h _ _ e, h2⟩
  | any => intro l hl; exact hl
  | bool b => intro l hl; exact hl
  | int c n => intro l hl; exact hl
  | str a b => intro l hl; exact hl
  | ptr p off => intro l hl; obtain ⟨L, e, h2⟩ := hl; exact ⟨L, h _ _ e, h2⟩
  | nilptr => intro l hl; exact hl
  | slice p a b c => intro l hl; obtain ⟨L, e, h2⟩ := hl; exact ⟨L, h _ _ e, h2⟩
  | oslice p a b c => intro l hl; obtain ⟨L, e, h2⟩ := hl; exact ⟨L, h _ _ e, h2⟩
  | nilslice => intro l hl; exact hl
  | map p => intro l hl; obtain ⟨L, e, h2⟩ := hl; exact ⟨L, h _ _ e, h2⟩
  | nilmap => intro l hl; exact hl
  | func fn a b iha ihb =>
    intro l hl
    obtain ⟨x, y, f, e, e2, i1, i2, ha, hb⟩ := hl
    exact ⟨x, y, f, e, e2, i1, i2, iha ha, ihb hb⟩
  | nilfunc => intro l hl; exact hl
  | iface t v ih => intro l hl; obtain ⟨x, e, hx⟩ := hl; exact ⟨x, e, ih hx⟩
  | niliface => intro l hl; exact hl
  | agg cs ih => intro l hl; obtain ⟨x, e, i, hx⟩ := hl; exact ⟨x, e, i, ih hx⟩
  | tuple cs ih => intro l hl; obtain ⟨x, e, i, hx⟩ := hl; exact ⟨x, e, i, ih hx⟩
  | yield p => intro l hl; obtain ⟨L, e, h2⟩ := hl; exact ⟨L, h _ _ e, h2⟩

/-- A list's length is that of what it stands for. -/
theorem RX.len {ρ : Ren} : ∀ {v : AV} {l : List Value}, RX ρ v l → v.isList = true → v.len = l.length := by
  intro v
  induction v with
  | nil => intro l hl _; cases hl; rfl
  | cons a r _ ihr => intro l hl hi; obtain ⟨x, xs, rfl, _, hr⟩ := hl; simp [AV.len, ihr hr hi]
  | _ => intro l _ hi; simp [AV.isList] at hi

theorem RX.app {ρ : Ren} : ∀ {v w : AV} {l m : List Value}, RX ρ v l → v.isList = true → RX ρ w m → RX ρ (v.app w) (l ++ m) := by
  intro v
  induction v with
  | nil => intro w l m hl _ hw; cases hl; exact hw
  | cons a r _ ihr => intro w l m hl hi hw; obtain ⟨x, xs, rfl, ha, hr⟩ := hl; exact ⟨x, xs ++ m, rfl, ha, ihr hr hi hw⟩
  | _ => intro w l m _ hi _; simp [AV.isList] at hi

theorem AV.isList_app : ∀ {v w : AV}, v.isList = true → w.isList = true → (v.app w).isList = true := by
  intro v
  induction v with
  | nil => intro w _ h; exact h
  | cons a r _ ih => intro w h1 h2; exact ih h1 h2
  | _ => intro w h; simp [AV.isList] at h

theorem AV.len_app : ∀ {v w : AV}, v.isList = true → (v.app w).len = v.len + w.len := by
  intro v
  induction v with
  | nil => intro w _; simp [AV.app, AV.len]
  | cons a r _ ih => intro w h; simp [AV.app, AV.len, ih h]; omega
  | _ => intro w h; simp [AV.isList] at h

/-- A place in a list. -/
theorem RX.nth {ρ : Ren} : ∀ {v : AV} {l : List Value} {j : Nat} {u : AV}, RX ρ v l → v.nth j = some u → ∃ x, l[j]? = some x ∧ RX ρ u [x] := by
  intro v
  induction v with
  | cons a r _ ihr =>
    intro l j u hl hn
    obtain ⟨x, xs, rfl, ha, hr⟩ := hl
    cases j with
    | zero => simp [AV.nth] at hn; subst hn; exact ⟨x, rfl, ha⟩
    | succ j => simp only [AV.nth] at hn; simpa using ihr hr hn
  | _ => intro l j u _ hn; simp [AV.nth] at hn

theorem RX.drop {ρ : Ren} : ∀ {v : AV} {l : List Value} {n : Nat}, RX ρ v l → v.isList = true → RX ρ (v.drop n) (l.drop n) ∧ (v.drop n).isList = true := by
  intro v
  induction v with
  | nil => intro l n hl hi; cases hl; cases n <;> simp [AV.drop, RX, AV.isList]
  | cons a r _ ihr =>
    intro l n hl hi
    cases n with
    | zero => exact ⟨hl, hi⟩
    | succ n =>
      obtain ⟨x, xs, rfl, ha, hr⟩ := hl
      exact ihr (n := n) hr hi
  | _ => intro l n _ hi; simp [AV.isList] at hi

theorem RX.take {ρ : Ren} : ∀ {v : AV} {l : List Value} {n : Nat}, RX ρ v l → v.isList = true → RX ρ (v.take n) (l.take n) ∧ (v.take n).isList = true := by
  intro v
  induction v with
  | nil => intro l n hl hi; cases hl; cases n <;> simp [AV.take, RX, AV.isList]
  | cons a r _ ihr =>
    intro l n hl hi
    cases n with
    | zero => simp [AV.take, RX, AV.isList]
    | succ n =>
      obtain ⟨x, xs, rfl, ha, hr⟩ := hl
      obtain ⟨h1, h2⟩ := ihr (n := n) hr hi
      exact ⟨⟨x, xs.take n, rfl, ha, h1⟩, h2⟩
  | _ => intro l n _ hi; simp [AV.isList] at hi

/-- The value of a slot that was not written. -/
theorem RX.undef (ρ : Ren) : RX ρ undefA [undef] := ⟨#[], rfl, rfl, rfl⟩

end Go.Dx
