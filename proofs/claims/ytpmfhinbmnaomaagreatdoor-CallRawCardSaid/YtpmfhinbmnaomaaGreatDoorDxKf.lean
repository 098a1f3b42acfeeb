/-
  A twin of the semantics for the kernel: it goes on by continuations, so that the kernel need keep nothing. First part: what all is made of.
-/
import Derived.Test.YtpmfhinbmnaomaaGreatDoorDxRun
import Derived.Test.YtpmfhinbmnaomaaGreatDoorDxRel
set_option linter.unusedSimpArgs false
set_option linter.unusedVariables false
set_option linter.unusedSectionVars false
namespace Go.Dx.K
open Go.Dx

/-- The twin's answer. (Not Bool: what the kernel holds against 'true' it keeps all steps of.) -/
inductive Tri where
  | yes
  | no

noncomputable section

/-- What an option answers, handed on. -/
def oT {α : Type} (k : α → Tri) (o : Option α) : Tri := Option.rec (motive := fun _ => Tri) .no k o

theorem oT_bind {α β : Type} (k : β → Tri) (o : Option α) (f : α → Option β) : oT k (o.bind f) = oT (fun a => oT k (f a)) o := by cases o <;> rfl
theorem oT_map {α β : Type} (k : β → Tri) (o : Option α) (f : α → β) : oT k (o.map f) = oT (fun a => k (f a)) o := by cases o <;> rfl
theorem oT_some {α : Type} (k : α → Tri) (a : α) : oT k (some a) = k a := rfl
theorem oT_none {α : Type} (k : α → Tri) : oT k none = .no := rfl
theorem oT_yes {α : Type} {k : α → Tri} {o : Option α} (h : oT k o = .yes) : ∃ a, o = some a ∧ k a = .yes := by
  cases o with
  | none => cases h
  | some a => exact ⟨a, rfl, h⟩

/-! Forcing. -/
def fB (k : Bool → Tri) (b : Bool) : Tri := Bool.rec (motive := fun _ => Tri) (k false) (k true) b
theorem fB_eq (k : Bool → Tri) (b : Bool) : fB k b = k b := by cases b <;> rfl
def fN (k : Nat → Tri) (n : Nat) : Tri := Nat.rec (motive := fun _ => Tri) (k 0) (fun m _ => k (Nat.succ m)) n
theorem fN_eq (k : Nat → Tri) (n : Nat) : fN k n = k n := by cases n <;> rfl
def fI (k : Int → Tri) (n : Int) : Tri := Int.rec (motive := fun _ => Tri) (fN (fun n => k (Int.ofNat n))) (fN (fun n => k (Int.negSucc n))) n
theorem fI_eq (k : Int → Tri) (n : Int) : fI k n = k n := by cases n <;> simp [fI, fN_eq]

/-- A test. -/
def ifB (b : Bool) (x y : Tri) : Tri := Bool.rec (motive := fun _ => Tri) y x b
theorem ifB_eq (b : Bool) (x y : Tri) : ifB b x y = if b then x else y := by cases b <;> rfl
theorem ifB_yes {b : Bool} {x : Tri} (h : ifB b x .no = .yes) : b = true ∧ x = .yes := by
  cases b with
  | false => cases h
  | true => exact ⟨rfl, h⟩

/-- Names. -/
def fP (p : Pos) (k : Pos → Tri) : Tri := Pos.rec (motive := fun _ => (Pos → Tri) → Tri) (fun k => k .h) (fun _ ih k => ih (fun p => k (.o p))) (fun _ ih k => ih (fun p => k (.i p))) p k
theorem fP_eq (p : Pos) : ∀ k, fP p k = k p := by
  induction p with
  | h => intro k; rfl
  | o p ih => intro k; exact ih _
  | i p ih => intro k; exact ih _
def succK (p : Pos) (k : Pos → Tri) : Tri := Pos.rec (motive := fun _ => (Pos → Tri) → Tri) (fun k => k (.o .h)) (fun p _ k => k (.i p)) (fun _ ih k => ih (fun p => k (.o p))) p k
theorem succK_eq (p : Pos) : ∀ k, succK p k = k p.succ := by
  induction p with
  | h => intro k; rfl
  | o p ih => intro k; rfl
  | i p ih => intro k; exact ih _
theorem key_succ (n : Nat) : key (n + 1) = (key n).succ := Pos.num_inj (by rw [Pos.num_succ, num_key, num_key])

/-- Are they the same? -/
def eqPosK (p : Pos) (q : Pos) (a b : Tri) : Tri :=
  Pos.rec (motive := fun _ => Pos → Tri) (fun q => Pos.rec (motive := fun _ => Tri) a (fun _ _ => b) (fun _ _ => b) q)
    (fun _ ih q => Pos.rec (motive := fun _ => Tri) b (fun q _ => ih q) (fun _ _ => b) q)
    (fun _ ih q => Pos.rec (motive := fun _ => Tri) b (fun _ _ => b) (fun q _ => ih q) q) p q
theorem eqPosK_eq (p : Pos) (a b : Tri) : ∀ q, eqPosK p q a b = if p = q then a else b := by
  induction p with
  | h => intro q; cases q <;> first | rfl | (rw [if_neg (by simp)]; rfl)
  | o p ih => intro q; cases q with
    | o q => show eqPosK p q a b = _; rw [ih]; by_cases h : p = q <;> simp [h]
    | _ => rw [if_neg (by simp)]; rfl
  | i p ih => intro q; cases q with
    | i q => show eqPosK p q a b = _; rw [ih]; by_cases h : p = q <;> simp [h]
    | _ => rw [if_neg (by simp)]; rfl

/-! Trees. -/
section
variable {α : Type}
def getT (p : Pos) (k : α → Tri) (t : Tr α) : Tri := Pos.rec (motive := fun _ => Tr α → Tri) (fun t => Tr.rec (motive := fun _ => Tri) .no (fun _ _ _ _ => .no) (fun _ x _ _ _ => k x) t)
  (fun _ ih t => Tr.rec (motive := fun _ => Tri) .no (fun l _ _ _ => ih l) (fun l _ _ _ _ => ih l) t)
  (fun _ ih t => Tr.rec (motive := fun _ => Tri) .no (fun _ r _ _ => ih r) (fun _ _ r _ _ => ih r) t) p t
theorem getT_eq (p : Pos) (k : α → Tri) : ∀ t, getT p k t = oT k (t.get p) := by
  induction p with
  | h => intro t; cases t <;> rfl
  | o p ih => intro t; cases t <;> first | rfl | exact ih _
  | i p ih => intro t; cases t <;> first | rfl | exact ih _

def setT (p : Pos) (x : α) (k : Tr α → Tri) (t : Tr α) : Tri := Pos.rec (motive := fun _ => (Tr α → Tri) → Tr α → Tri)
  (fun k t => Tr.rec (motive := fun _ => Tri) (k (.val .leaf x .leaf)) (fun l r _ _ => k (.val l x r)) (fun l _ r _ _ => k (.val l x r)) t)
  (fun _ ih k t => Tr.rec (motive := fun _ => Tri) (ih (fun l => k (.nod l .leaf)) .leaf) (fun l r _ _ => ih (fun l => k (.nod l r)) l) (fun l y r _ _ => ih (fun l => k (.val l y r)) l) t)
  (fun _ ih k t => Tr.rec (motive := fun _ => Tri) (ih (fun r => k (.nod .leaf r)) .leaf) (fun l r _ _ => ih (fun r => k (.nod l r)) r) (fun l y r _ _ => ih (fun r => k (.val l y r)) r) t) p k t
theorem setT_eq (p : Pos) (x : α) : ∀ k t, setT p x k t = k (t.set p x) := by
  induction p with
  | h => intro k t; cases t <;> rfl
  | o p ih => intro k t; cases t <;> exact ih _ _
  | i p ih => intro k t; cases t <;> exact ih _ _
end

/-! Values. -/
def onBool (f : Bool → Tri) (v : AV) : Tri :=
  AV.rec (motive := fun _ => Tri) (fun _ _ _ => .no) .no f (fun _ _ => .no) (fun _ _ => .no) (fun _ _ => .no) .no (fun _ _ _ _ => .no) (fun _ _ _ _ => .no) .no (fun _ => .no) .no (fun _ _ _ _ _ => .no) .no (fun _ _ _ => .no) .no (fun _ _ => .no) (fun _ _ => .no) .no (fun _ _ _ _ => .no) (fun _ => .no) v
def onInt (f : Nat → Int → Tri) (v : AV) : Tri :=
  AV.rec (motive := fun _ => Tri) (fun _ _ _ => .no) .no (fun _ => .no) f (fun _ _ => .no) (fun _ _ => .no) .no (fun _ _ _ _ => .no) (fun _ _ _ _ => .no) .no (fun _ => .no) .no (fun _ _ _ _ _ => .no) .no (fun _ _ _ => .no) .no (fun _ _ => .no) (fun _ _ => .no) .no (fun _ _ _ _ => .no) (fun _ => .no) v
/-- Integers, and those of which bounds alone are known. -/
def onIntS (f : Nat → Int → Tri) (g : Int → Int → Tri) (v : AV) : Tri :=
  AV.rec (motive := fun _ => Tri) (fun _ a b => g a b) .no (fun _ => .no) f (fun _ _ => .no) (fun _ _ => .no) .no (fun _ _ _ _ => .no) (fun _ _ _ _ => .no) .no (fun _ => .no) .no (fun _ _ _ _ _ => .no) .no (fun _ _ _ => .no) .no (fun _ _ => .no) (fun _ _ => .no) .no (fun _ _ _ _ => .no) (fun _ => .no) v
theorem onIntS_yes {f : Nat → Int → Tri} {g : Int → Int → Tri} {v : AV} (h : onIntS f g v = .yes) : (∃ c n, v = .int c n ∧ f c n = .yes) ∨ ∃ p a b, v = .sym p a b ∧ g a b = .yes := by cases v <;> first | exact .inl ⟨_, _, rfl, h⟩ | exact .inr ⟨_, _, _, rfl, h⟩ | cases h
/-- The name of one that is not known. -/
def onSym (f : Pos → Tri) (v : AV) : Tri :=
  AV.rec (motive := fun _ => Tri) (fun p _ _ => f p) .no (fun _ => .no) (fun _ _ => .no) (fun _ _ => .no) (fun _ _ => .no) .no (fun _ _ _ _ => .no) (fun _ _ _ _ => .no) .no (fun _ => .no) .no (fun _ _ _ _ _ => .no) .no (fun _ _ _ => .no) .no (fun _ _ => .no) (fun _ _ => .no) .no (fun _ _ _ _ => .no) (fun _ => .no) v
def onIntP (f : Nat → Int → Tri) (g : Pos → Tri) (v : AV) : Tri :=
  AV.rec (motive := fun _ => Tri) (fun p _ _ => g p) .no (fun _ => .no) f (fun _ _ => .no) (fun _ _ => .no) .no (fun _ _ _ _ => .no) (fun _ _ _ _ => .no) .no (fun _ => .no) .no (fun _ _ _ _ _ => .no) .no (fun _ _ _ => .no) .no (fun _ _ => .no) (fun _ _ => .no) .no (fun _ _ _ _ => .no) (fun _ => .no) v
def onStr (f : Nat → Nat → Tri) (v : AV) : Tri :=
  AV.rec (motive := fun _ => Tri) (fun _ _ _ => .no) .no (fun _ => .no) (fun _ _ => .no) f (fun _ _ => .no) .no (fun _ _ _ _ => .no) (fun _ _ _ _ => .no) .no (fun _ => .no) .no (fun _ _ _ _ _ => .no) .no (fun _ _ _ => .no) .no (fun _ _ => .no) (fun _ _ => .no) .no (fun _ _ _ _ => .no) (fun _ => .no) v
def onPtr (f : Pos → Nat → Tri) (v : AV) : Tri :=
  AV.rec (motive := fun _ => Tri) (fun _ _ _ => .no) .no (fun _ => .no) (fun _ _ => .no) (fun _ _ => .no) f .no (fun _ _ _ _ => .no) (fun _ _ _ _ => .no) .no (fun _ => .no) .no (fun _ _ _ _ _ => .no) .no (fun _ _ _ => .no) .no (fun _ _ => .no) (fun _ _ => .no) .no (fun _ _ _ _ => .no) (fun _ => .no) v
/-- Pointers, nil or not. -/
def onPtrN (z : Tri) (f : Pos → Nat → Tri) (v : AV) : Tri :=
  AV.rec (motive := fun _ => Tri) (fun _ _ _ => .no) .no (fun _ => .no) (fun _ _ => .no) (fun _ _ => .no) f z (fun _ _ _ _ => .no) (fun _ _ _ _ => .no) .no (fun _ => .no) .no (fun _ _ _ _ _ => .no) .no (fun _ _ _ => .no) .no (fun _ _ => .no) (fun _ _ => .no) .no (fun _ _ _ _ => .no) (fun _ => .no) v
/-- Slices: nil, of a known capacity, open. -/
def onSl (z : Tri) (f g : Pos → Nat → Nat → Nat → Tri) (v : AV) : Tri :=
  AV.rec (motive := fun _ => Tri) (fun _ _ _ => .no) .no (fun _ => .no) (fun _ _ => .no) (fun _ _ => .no) (fun _ _ => .no) .no f g z (fun _ => .no) .no (fun _ _ _ _ _ => .no) .no (fun _ _ _ => .no) .no (fun _ _ => .no) (fun _ _ => .no) .no (fun _ _ _ _ => .no) (fun _ => .no) v
def onMap (z : Tri) (f : Pos → Tri) (v : AV) : Tri :=
  AV.rec (motive := fun _ => Tri) (fun _ _ _ => .no) .no (fun _ => .no) (fun _ _ => .no) (fun _ _ => .no) (fun _ _ => .no) .no (fun _ _ _ _ => .no) (fun _ _ _ _ => .no) .no f z (fun _ _ _ _ _ => .no) .no (fun _ _ _ => .no) .no (fun _ _ => .no) (fun _ _ => .no) .no (fun _ _ _ _ => .no) (fun _ => .no) v
def onFunc (z : Tri) (f : Fn → AV → AV → Tri) (v : AV) : Tri :=
  AV.rec (motive := fun _ => Tri) (fun _ _ _ => .no) .no (fun _ => .no) (fun _ _ => .no) (fun _ _ => .no) (fun _ _ => .no) .no (fun _ _ _ _ => .no) (fun _ _ _ _ => .no) .no (fun _ => .no) .no (fun g a b _ _ => f g a b) z (fun _ _ _ => .no) .no (fun _ _ => .no) (fun _ _ => .no) .no (fun _ _ _ _ => .no) (fun _ => .no) v
def onIface (z : Tri) (f : Nat → AV → Tri) (v : AV) : Tri :=
  AV.rec (motive := fun _ => Tri) (fun _ _ _ => .no) .no (fun _ => .no) (fun _ _ => .no) (fun _ _ => .no) (fun _ _ => .no) .no (fun _ _ _ _ => .no) (fun _ _ _ _ => .no) .no (fun _ => .no) .no (fun _ _ _ _ _ => .no) .no (fun t u _ => f t u) z (fun _ _ => .no) (fun _ _ => .no) .no (fun _ _ _ _ => .no) (fun _ => .no) v
def onAgg (f : AV → Tri) (v : AV) : Tri :=
  AV.rec (motive := fun _ => Tri) (fun _ _ _ => .no) .no (fun _ => .no) (fun _ _ => .no) (fun _ _ => .no) (fun _ _ => .no) .no (fun _ _ _ _ => .no) (fun _ _ _ _ => .no) .no (fun _ => .no) .no (fun _ _ _ _ _ => .no) .no (fun _ _ _ => .no) .no (fun u _ => f u) (fun _ _ => .no) .no (fun _ _ _ _ => .no) (fun _ => .no) v
def onTup (f : AV → Tri) (v : AV) : Tri :=
  AV.rec (motive := fun _ => Tri) (fun _ _ _ => .no) .no (fun _ => .no) (fun _ _ => .no) (fun _ _ => .no) (fun _ _ => .no) .no (fun _ _ _ _ => .no) (fun _ _ _ _ => .no) .no (fun _ => .no) .no (fun _ _ _ _ _ => .no) .no (fun _ _ _ => .no) .no (fun _ _ => .no) (fun u _ => f u) .no (fun _ _ _ _ => .no) (fun _ => .no) v
/-- Lists. -/
def onList (z : Tri) (f : AV → AV → Tri) (v : AV) : Tri :=
  AV.rec (motive := fun _ => Tri) (fun _ _ _ => .no) .no (fun _ => .no) (fun _ _ => .no) (fun _ _ => .no) (fun _ _ => .no) .no (fun _ _ _ _ => .no) (fun _ _ _ _ => .no) .no (fun _ => .no) .no (fun _ _ _ _ _ => .no) .no (fun _ _ _ => .no) .no (fun _ _ => .no) (fun _ _ => .no) z (fun a r _ _ => f a r) (fun _ => .no) v
/-- Any value but the nothing. -/
def chk (k : Tri) (v : AV) : Tri :=
  AV.rec (motive := fun _ => Tri) (fun _ _ _ => k) k (fun _ => k) (fun _ _ => k) (fun _ _ => k) (fun _ _ => k) k (fun _ _ _ _ => k) (fun _ _ _ _ => k) k (fun _ => k) k (fun _ _ _ _ _ => k) k (fun _ _ _ => k) k (fun _ _ => k) (fun _ _ => k) .no (fun _ _ _ _ => k) (fun _ => k) v
theorem chk_yes {k : Tri} {v : AV} (h : chk k v = .yes) : v ≠ .nil ∧ k = .yes := by
  cases v <;> first | exact ⟨AV.noConfusion, h⟩ | cases h

theorem onBool_yes {f : Bool → Tri} {v : AV} (h : onBool f v = .yes) : ∃ b, v = .bool b ∧ f b = .yes := by cases v <;> first | exact ⟨_, rfl, h⟩ | cases h
theorem onInt_yes {f : Nat → Int → Tri} {v : AV} (h : onInt f v = .yes) : ∃ c n, v = .int c n ∧ f c n = .yes := by cases v <;> first | exact ⟨_, _, rfl, h⟩ | cases h
theorem onStr_yes {f : Nat → Nat → Tri} {v : AV} (h : onStr f v = .yes) : ∃ l n, v = .str l n ∧ f l n = .yes := by cases v <;> first | exact ⟨_, _, rfl, h⟩ | cases h
theorem onPtr_yes {f : Pos → Nat → Tri} {v : AV} (h : onPtr f v = .yes) : ∃ p o, v = .ptr p o ∧ f p o = .yes := by cases v <;> first | exact ⟨_, _, rfl, h⟩ | cases h
theorem onPtrN_yes {z : Tri} {f : Pos → Nat → Tri} {v : AV} (h : onPtrN z f v = .yes) : (v = .nilptr ∧ z = .yes) ∨ ∃ p o, v = .ptr p o ∧ f p o = .yes := by cases v <;> first | exact .inr ⟨_, _, rfl, h⟩ | exact .inl ⟨rfl, h⟩ | cases h
theorem onSl_yes {z : Tri} {f g : Pos → Nat → Nat → Nat → Tri} {v : AV} (h : onSl z f g v = .yes) : (v = .nilslice ∧ z = .yes) ∨ (∃ p a b c, v = .slice p a b c ∧ f p a b c = .yes) ∨ ∃ p a b c, v = .oslice p a b c ∧ g p a b c = .yes := by
  cases v <;> first | exact .inl ⟨rfl, h⟩ | exact .inr (.inl ⟨_, _, _, _, rfl, h⟩) | exact .inr (.inr ⟨_, _, _, _, rfl, h⟩) | cases h
theorem onMap_yes {z : Tri} {f : Pos → Tri} {v : AV} (h : onMap z f v = .yes) : (v = .nilmap ∧ z = .yes) ∨ ∃ p, v = .map p ∧ f p = .yes := by cases v <;> first | exact .inr ⟨_, rfl, h⟩ | exact .inl ⟨rfl, h⟩ | cases h
theorem onFunc_yes {z : Tri} {f : Fn → AV → AV → Tri} {v : AV} (h : onFunc z f v = .yes) : (v = .nilfunc ∧ z = .yes) ∨ ∃ g a b, v = .func g a b ∧ f g a b = .yes := by cases v <;> first | exact .inr ⟨_, _, _, rfl, h⟩ | exact .inl ⟨rfl, h⟩ | cases h
theorem onIface_yes {z : Tri} {f : Nat → AV → Tri} {v : AV} (h : onIface z f v = .yes) : (v = .niliface ∧ z = .yes) ∨ ∃ t u, v = .iface t u ∧ f t u = .yes := by cases v <;> first | exact .inr ⟨_, _, rfl, h⟩ | exact .inl ⟨rfl, h⟩ | cases h
theorem onAgg_yes {f : AV → Tri} {v : AV} (h : onAgg f v = .yes) : ∃ b, v = .agg b ∧ f b = .yes := by cases v <;> first | exact ⟨_, rfl, h⟩ | cases h
theorem onTup_yes {f : AV → Tri} {v : AV} (h : onTup f v = .yes) : ∃ b, v = .tuple b ∧ f b = .yes := by cases v <;> first | exact ⟨_, rfl, h⟩ | cases h
theorem onList_yes {z : Tri} {f : AV → AV → Tri} {v : AV} (h : onList z f v = .yes) : (v = .nil ∧ z = .yes) ∨ ∃ a r, v = .cons a r ∧ f a r = .yes := by cases v <;> first | exact .inr ⟨_, _, rfl, h⟩ | exact .inl ⟨rfl, h⟩ | cases h

/-- The cells of a value. -/
def cellsV (k : AV → Tri) (v : AV) : Tri :=
  AV.rec (motive := fun _ => Tri) (fun p a b => k (.cons (.sym p a b) .nil)) (k .any) (fun b => k (.cons (.bool b) .nil)) (fun c n => k (.cons (.int c n) .nil)) (fun l n => k (.cons (.str l n) .nil)) (fun p o => k (.cons (.ptr p o) .nil)) (k (.cons .nilptr .nil)) (fun p a b c => k (.cons (.slice p a b c) .nil)) (fun p a b c => k (.cons (.oslice p a b c) .nil)) (k (.cons .nilslice .nil)) (fun p => k (.cons (.map p) .nil)) (k (.cons .nilmap .nil)) (fun f a b _ _ => k (.cons (.func f a b) .nil)) (k (.cons .nilfunc .nil)) (fun t u _ => k (.cons (.iface t u) .nil)) (k (.cons .niliface .nil)) (fun cs _ => k cs) (fun vs _ => k (.cons (.tuple vs) .nil)) .no (fun _ _ _ _ => .no) (fun p => k (.cons (.yield p) .nil)) v
theorem cellsV_yes {k : AV → Tri} {v : AV} (h : cellsV k v = .yes) : v ≠ .nil ∧ k v.cells = .yes := by
  cases v <;> first | exact ⟨AV.noConfusion, h⟩ | cases h

/-- Forcing a value, to its last part. -/
def fA (v : AV) : (AV → Tri) → Tri :=
  AV.rec (motive := fun _ => (AV → Tri) → Tri) (fun p a b k => fP p (fun p => fI (fun a => fI (fun b => k (.sym p a b)) b) a)) (fun k => k .any) (fun b k => fB (fun b => k (.bool b)) b) (fun c n k => fN (fun c => fI (fun n => k (.int c n)) n) c) (fun l n k => fN (fun l => fN (fun n => k (.str l n)) n) l)
    (fun p o k => fP p (fun p => fN (fun o => k (.ptr p o)) o)) (fun k => k .nilptr) (fun p a b c k => fP p (fun p => fN (fun a => fN (fun b => fN (fun c => k (.slice p a b c)) c) b) a)) (fun p a b c k => fP p (fun p => fN (fun a => fN (fun b => fN (fun c => k (.oslice p a b c)) c) b) a))
    (fun k => k .nilslice) (fun p k => fP p (fun p => k (.map p))) (fun k => k .nilmap) (fun f _ _ iha ihb k => iha (fun a => ihb (fun b => k (.func f a b)))) (fun k => k .nilfunc) (fun t _ ih k => fN (fun t => ih (fun u => k (.iface t u))) t) (fun k => k .niliface)
    (fun _ ih k => ih (fun c => k (.agg c))) (fun _ ih k => ih (fun c => k (.tuple c))) (fun k => k .nil) (fun _ _ iha ihr k => iha (fun a => ihr (fun r => k (.cons a r)))) (fun p k => fP p (fun p => k (.yield p))) v
theorem fA_eq (v : AV) : ∀ k, fA v k = k v := by
  induction v with
  | func f a b iha ihb => intro k; show fA a (fun a => fA b (fun b => k (.func f a b))) = _; rw [iha, ihb]
  | iface t u ih => intro k; show fN (fun t => fA u (fun u => k (.iface t u))) t = _; rw [fN_eq, ih]
  | agg u ih => intro k; show fA u (fun c => k (.agg c)) = _; rw [ih]
  | tuple u ih => intro k; show fA u (fun c => k (.tuple c)) = _; rw [ih]
  | cons a r iha ihr => intro k; show fA a (fun a => fA r (fun r => k (.cons a r))) = _; rw [iha, ihr]
  | _ => intro k; simp only [fA, fB_eq, fN_eq, fI_eq, fP_eq]

/-- A list's length. -/
def lenR (v : AV) : Nat :=
  AV.rec (motive := fun _ => Nat) (fun _ _ _ => 0) 0 (fun _ => 0) (fun _ _ => 0) (fun _ _ => 0) (fun _ _ => 0) 0 (fun _ _ _ _ => 0) (fun _ _ _ _ => 0) 0 (fun _ => 0) 0 (fun _ _ _ _ _ => 0) 0 (fun _ _ _ => 0) 0 (fun _ _ => 0) (fun _ _ => 0) 0 (fun _ _ _ ih => Nat.succ ih) (fun _ => 0) v
theorem lenR_eq (v : AV) : lenR v = v.len := by
  induction v with
  | cons a r _ ih => show Nat.succ (lenR r) = _; rw [ih]; rfl
  | _ => rfl
def isListR (v : AV) : Bool :=
  AV.rec (motive := fun _ => Bool) (fun _ _ _ => false) false (fun _ => false) (fun _ _ => false) (fun _ _ => false) (fun _ _ => false) false (fun _ _ _ _ => false) (fun _ _ _ _ => false) false (fun _ => false) false (fun _ _ _ _ _ => false) false (fun _ _ _ => false) false (fun _ _ => false) (fun _ _ => false) true (fun _ _ _ ih => ih) (fun _ => false) v
theorem isListR_eq (v : AV) : isListR v = v.isList := by
  induction v with
  | cons a r _ ih => exact ih
  | _ => rfl

/-- Places in lists. -/
def nthA (j : Nat) (k : AV → Tri) : AV → Tri := Nat.rec (motive := fun _ => AV → Tri) (onList .no (fun a _ => k a)) (fun _ ih => onList .no (fun _ r => ih r)) j
theorem nthA_eq (j : Nat) (k : AV → Tri) : ∀ v, nthA j k v = oT k (v.nth j) := by
  induction j with
  | zero => intro v; cases v <;> rfl
  | succ j ih =>
    intro v
    cases v with
    | cons a r => exact ih r
    | _ => rfl

/-- Lists joined. -/
def appK (v : AV) (y : AV) (k : AV → Tri) : Tri :=
  AV.rec (motive := fun _ => (AV → Tri) → Tri) (fun p a b k => k (.sym p a b)) (fun k => k .any) (fun b k => k (.bool b)) (fun c n k => k (.int c n)) (fun l n k => k (.str l n)) (fun p o k => k (.ptr p o)) (fun k => k .nilptr) (fun p a b c k => k (.slice p a b c)) (fun p a b c k => k (.oslice p a b c)) (fun k => k .nilslice) (fun p k => k (.map p)) (fun k => k .nilmap)
    (fun f a b _ _ k => k (.func f a b)) (fun k => k .nilfunc) (fun t u _ k => k (.iface t u)) (fun k => k .niliface) (fun c _ k => k (.agg c)) (fun c _ k => k (.tuple c)) (fun k => k y) (fun a _ _ ih k => ih (fun r => k (.cons a r))) (fun p k => k (.yield p)) v k
theorem appK_eq (v y : AV) : ∀ k, appK v y k = k (v.app y) := by
  induction v with
  | cons a r _ ih => intro k; show appK r y (fun r => k (.cons a r)) = _; rw [ih]; rfl
  | _ => intro k; rfl

/-! The values of a region, the last one first. -/
inductive Env where
  | nil
  | cons (v : AV) (r : Env)
def Env.toAV : Env → AV
  | .nil => .nil
  | .cons v r => .cons v r.toAV
def nthE (j : Nat) (k : AV → Tri) : Env → Tri := Nat.rec (motive := fun _ => Env → Tri) (fun e => Env.rec (motive := fun _ => Tri) .no (fun v _ _ => k v) e) (fun _ ih e => Env.rec (motive := fun _ => Tri) .no (fun _ r _ => ih r) e) j
theorem nthE_eq (j : Nat) (k : AV → Tri) : ∀ e, nthE j k e = oT k (e.toAV.nth j) := by
  induction j with
  | zero => intro e; cases e <;> rfl
  | succ j ih => intro e; cases e with
    | nil => rfl
    | cons v r => exact ih r
def e0 (k : AV → Tri) (e : Env) : Tri := Env.rec (motive := fun _ => Tri) .no (fun v _ _ => k v) e
def eS (ih : Env → Tri) (e : Env) : Tri := Env.rec (motive := fun _ => Tri) .no (fun _ r _ => ih r) e
/-- The reader of a place. -/
def eGet {β : Type} (j : Nat) (K : ((AV → Tri) → Env → Tri) → β) : β :=
  Nat.rec (motive := fun _ => β) (K e0) (fun j _ => Nat.rec (motive := fun _ => β) (K fun k => eS (e0 k)) (fun j _ => Nat.rec (motive := fun _ => β) (K fun k => eS (eS (e0 k))) (fun j _ => Nat.rec (motive := fun _ => β) (K fun k => eS (eS (eS (e0 k)))) (fun j _ =>
    Nat.rec (motive := fun _ => β) (K fun k => eS (eS (eS (eS (e0 k))))) (fun j _ => Nat.rec (motive := fun _ => β) (K fun k => eS (eS (eS (eS (eS (e0 k)))))) (fun j _ => K fun k => eS (eS (eS (eS (eS (eS (nthE j k))))))) j) j) j) j) j) j
theorem eGet_eq {β : Type} (j : Nat) (K : ((AV → Tri) → Env → Tri) → β) : ∃ g, eGet j K = K g ∧ ∀ k e, g k e = oT k (e.toAV.nth j) := by
  rcases j with _ | (_ | (_ | (_ | (_ | (_ | j)))))
  · exact ⟨_, rfl, fun k e => nthE_eq 0 k e⟩
  · exact ⟨_, rfl, fun k e => nthE_eq 1 k e⟩
  · exact ⟨_, rfl, fun k e => nthE_eq 2 k e⟩
  · exact ⟨_, rfl, fun k e => nthE_eq 3 k e⟩
  · exact ⟨_, rfl, fun k e => nthE_eq 4 k e⟩
  · exact ⟨_, rfl, fun k e => nthE_eq 5 k e⟩
  · exact ⟨_, rfl, fun k e => nthE_eq (j + 6) k e⟩

abbrev KH := Pos → Tr AO → Tri
end
end Go.Dx.K
set_option linter.unusedSimpArgs false
set_option linter.unusedVariables false
set_option linter.unusedSectionVars false
namespace Go.Dx.K
open Go.Dx

noncomputable section
variable {α : Type}
abbrev T24 (α : Type) := (α → α → α → α → α → α → α → α → α → α → α → α → α → α → α → α → α → α → α → α → α → α → α → α → Tri) → Tri
def mk24 (f : Nat → α) : T24 α := fun s => s (f 0) (f 1) (f 2) (f 3) (f 4) (f 5) (f 6) (f 7) (f 8) (f 9) (f 10) (f 11) (f 12) (f 13) (f 14) (f 15) (f 16) (f 17) (f 18) (f 19) (f 20) (f 21) (f 22) (f 23)
def g0 (k : α → Tri) (t : T24 α) : Tri := t (fun a0 _ _ _ _ _ _ _ _ _ _ _ _ _ _ _ _ _ _ _ _ _ _ _ => k a0)
def s0 (v : α) (k : T24 α → Tri) (t : T24 α) : Tri := t (fun _ a1 a2 a3 a4 a5 a6 a7 a8 a9 a10 a11 a12 a13 a14 a15 a16 a17 a18 a19 a20 a21 a22 a23 => k (fun s => s v a1 a2 a3 a4 a5 a6 a7 a8 a9 a10 a11 a12 a13 a14 a15 a16 a17 a18 a19 a20 a21 a22 a23))
def u0 (u : (α → Tri) → α → Tri) (k : T24 α → Tri) (t : T24 α) : Tri := t (fun a0 a1 a2 a3 a4 a5 a6 a7 a8 a9 a10 a11 a12 a13 a14 a15 a16 a17 a18 a19 a20 a21 a22 a23 => u (fun v => k (fun s => s v a1 a2 a3 a4 a5 a6 a7 a8 a9 a10 a11 a12 a13 a14 a15 a16 a17 a18 a19 a20 a21 a22 a23)) a0)
def g1 (k : α → Tri) (t : T24 α) : Tri := t (fun _ a1 _ _ _ _ _ _ _ _ _ _ _ _ _ _ _ _ _ _ _ _ _ _ => k a1)
def s1 (v : α) (k : T24 α → Tri) (t : T24 α) : Tri := t (fun a0 _ a2 a3 a4 a5 a6 a7 a8 a9 a10 a11 a12 a13 a14 a15 a16 a17 a18 a19 a20 a21 a22 a23 => k (fun s => s a0 v a2 a3 a4 a5 a6 a7 a8 a9 a10 a11 a12 a13 a14 a15 a16 a17 a18 a19 a20 a21 a22 a23))
def u1 (u : (α → Tri) → α → Tri) (k : T24 α → Tri) (t : T24 α) : Tri := t (fun a0 a1 a2 a3 a4 a5 a6 a7 a8 a9 a10 a11 a12 a13 a14 a15 a16 a17 a18 a19 a20 a21 a22 a23 => u (fun v => k (fun s => s a0 v a2 a3 a4 a5 a6 a7 a8 a9 a10 a11 a12 a13 a14 a15 a16 a17 a18 a19 a20 a21 a22 a23)) a1)
def g2 (k : α → Tri) (t : T24 α) : Tri := t (fun _ _ a2 _ _ _ _ _ _ _ _ _ _ _ _ _ _ _ _ _ _ _ _ _ => k a2)
def s2 (v : α) (k : T24 α → Tri) (t : T24 α) : Tri := t (fun a0 a1 _ a3 a4 a5 a6 a7 a8 a9 a10 a11 a12 a13 a14 a15 a16 a17 a18 a19 a20 a21 a22 a23 => k (fun s => s a0 a1 v a3 a4 a5 a6 a7 a8 a9 a10 a11 a12 a13 a14 a15 a16 a17 a18 a19 a20 a21 a22 a23))
def u2 (u : (α → Tri) → α → Tri) (k : T24 α → Tri) (t : T24 α) : Tri := t (fun a0 a1 a2 a3 a4 a5 a6 a7 a8 a9 a10 a11 a12 a13 a14 a15 a16 a17 a18 a19 a20 a21 a22 a23 => u (fun v => k (fun s => s a0 a1 v a3 a4 a5 a6 a7 a8 a9 a10 a11 a12 a13 a14 a15 a16 a17 a18 a19 a20 a21 a22 a23)) a2)
def g3 (k : α → Tri) (t : T24 α) : Tri := t (fun _ _ _ a3 _ _ _ _ _ _ _ _ _ _ _ _ _ _ _ _ _ _ _ _ => k a3)
def s3 (v : α) (k : T24 α → Tri) (t : T24 α) : Tri := t (fun a0 a1 a2 _ a4 a5 a6 a7 a8 a9 a10 a11 a12 a13 a14 a15 a16 a17 a18 a19 a20 a21 a22 a23 => k (fun s => s a0 a1 a2 v a4 a5 a6 a7 a8 a9 a10 a11 a12 a13 a14 a15 a16 a17 a18 a19 a20 a21 a22 a23))
def u3 (u : (α → Tri) → α → Tri) (k : T24 α → Tri) (t : T24 α) : Tri := t (fun a0 a1 a2 a3 a4 a5 a6 a7 a8 a9 a10 a11 a12 a13 a14 a15 a16 a17 a18 a19 a20 a21 a22 a23 => u (fun v => k (fun s => s a0 a1 a2 v a4 a5 a6 a7 a8 a9 a10 a11 a12 a13 a14 a15 a16 a17 a18 a19 a20 a21 a22 a23)) a3)
def g4 (k : α → Tri) (t : T24 α) : Tri := t (fun _ _ _ _ a4 _ _ _ _ _ _ _ _ _ _ _ _ _ _ _ _ _ _ _ => k a4)
def s4 (v : α) (k : T24 α → Tri) (t : T24 α) : Tri := t (fun a0 a1 a2 a3 _ a5 a6 a7 a8 a9 a10 a11 a12 a13 a14 a15 a16 a17 a18 a19 a20 a21 a22 a23 => k (fun s => s a0 a1 a2 a3 v a5 a6 a7 a8 a9 a10 a11 a12 a13 a14 a15 a16 a17 a18 a19 a20 a21 a22 a23))
def u4 (u : (α → Tri) → α → Tri) (k : T24 α → Tri) (t : T24 α) : Tri := t (fun a0 a1 a2 a3 a4 a5 a6 a7 a8 a9 a10 a11 a12 a13 a14 a15 a16 a17 a18 a19 a20 a21 a22 a23 => u (fun v => k (fun s => s a0 a1 a2 a3 v a5 a6 a7 a8 a9 a10 a11 a12 a13 a14 a15 a16 a17 a18 a19 a20 a21 a22 a23)) a4)
def g5 (k : α → Tri) (t : T24 α) : Tri := t (fun _ _ _ _ _ a5 _ _ _ _ _ _ _ _ _ _ _ _ _ _ _ _ _ _ => k a5)
def s5 (v : α) (k : T24 α → Tri) (t : T24 α) : Tri := t (fun a0 a1 a2 a3 a4 _ a6 a7 a8 a9 a10 a11 a12 a13 a14 a15 a16 a17 a18 a19 a20 a21 a22 a23 => k (fun s => s a0 a1 a2 a3 a4 v a6 a7 a8 a9 a10 a11 a12 a13 a14 a15 a16 a17 a18 a19 a20 a21 a22 a23))
def u5 (u : (α → Tri) → α → Tri) (k : T24 α → Tri) (t : T24 α) : Tri := t (fun a0 a1 a2 a3 a4 a5 a6 a7 a8 a9 a10 a11 a12 a13 a14 a15 a16 a17 a18 a19 a20 a21 a22 a23 => u (fun v => k (fun s => s a0 a1 a2 a3 a4 v a6 a7 a8 a9 a10 a11 a12 a13 a14 a15 a16 a17 a18 a19 a20 a21 a22 a23)) a5)
def g6 (k : α → Tri) (t : T24 α) : Tri := t (fun _ _ _ _ _ _ a6 _ _ _ _ _ _ _ _ _ _ _ _ _ _ _ _ _ => k a6)
def s6 (v : α) (k : T24 α → Tri) (t : T24 α) : Tri := t (fun a0 a1 a2 a3 a4 a5 _ a7 a8 a9 a10 a11 a12 a13 a14 a15 a16 a17 a18 a19 a20 a21 a22 a23 => k (fun s => s a0 a1 a2 a3 a4 a5 v a7 a8 a9 a10 a11 a12 a13 a14 a15 a16 a17 a18 a19 a20 a21 a22 a23))
def u6 (u : (α → Tri) → α → Tri) (k : T24 α → Tri) (t : T24 α) : Tri := t (fun a0 a1 a2 a3 a4 a5 a6 a7 a8 a9 a10 a11 a12 a13 a14 a15 a16 a17 a18 a19 a20 a21 a22 a23 => u (fun v => k (fun s => s a0 a1 a2 a3 a4 a5 v a7 a8 a9 a10 a11 a12 a13 a14 a15 a16 a17 a18 a19 a20 a21 a22 a23)) a6)
def g7 (k : α → Tri) (t : T24 α) : Tri := t (fun _ _ _ _ _ _ _ a7 _ _ _ _ _ _ _ _ _ _ _ _ _ _ _ _ => k a7)
def s7 (v : α) (k : T24 α → Tri) (t : T24 α) : Tri := t (fun a0 a1 a2 a3 a4 a5 a6 _ a8 a9 a10 a11 a12 a13 a14 a15 a16 a17 a18 a19 a20 a21 a22 a23 => k (fun s => s a0 a1 a2 a3 a4 a5 a6 v a8 a9 a10 a11 a12 a13 a14 a15 a16 a17 a18 a19 a20 a21 a22 a23))
def u7 (u : (α → Tri) → α → Tri) (k : T24 α → Tri) (t : T24 α) : Tri := t (fun a0 a1 a2 a3 a4 a5 a6 a7 a8 a9 a10 a11 a12 a13 a14 a15 a16 a17 a18 a19 a20 a21 a22 a23 => u (fun v => k (fun s => s a0 a1 a2 a3 a4 a5 a6 v a8 a9 a10 a11 a12 a13 a14 a15 a16 a17 a18 a19 a20 a21 a22 a23)) a7)
def g8 (k : α → Tri) (t : T24 α) : Tri := t (fun _ _ _ _ _ _ _ _ a8 _ _ _ _ _ _ _ _ _ _ _ _ _ _ _ => k a8)
def s8 (v : α) (k : T24 α → Tri) (t : T24 α) : Tri := t (fun a0 a1 a2 a3 a4 a5 a6 a7 _ a9 a10 a11 a12 a13 a14 a15 a16 a17 a18 a19 a20 a21 a22 a23 => k (fun s => s a0 a1 a2 a3 a4 a5 a6 a7 v a9 a10 a11 a12 a13 a14 a15 a16 a17 a18 a19 a20 a21 a22 a23))
def u8 (u : (α → Tri) → α → Tri) (k : T24 α → Tri) (t : T24 α) : Tri := t (fun a0 a1 a2 a3 a4 a5 a6 a7 a8 a9 a10 a11 a12 a13 a14 a15 a16 a17 a18 a19 a20 a21 a22 a23 => u (fun v => k (fun s => s a0 a1 a2 a3 a4 a5 a6 a7 v a9 a10 a11 a12 a13 a14 a15 a16 a17 a18 a19 a20 a21 a22 a23)) a8)
def g9 (k : α → Tri) (t : T24 α) : Tri := t (fun _ _ _ _ _ _ _ _ _ a9 _ _ _ _ _ _ _ _ _ _ _ _ _ _ => k a9)
def s9 (v : α) (k : T24 α → Tri) (t : T24 α) : Tri := t (fun a0 a1 a2 a3 a4 a5 a6 a7 a8 _ a10 a11 a12 a13 a14 a15 a16 a17 a18 a19 a20 a21 a22 a23 => k (fun s => s a0 a1 a2 a3 a4 a5 a6 a7 a8 v a10 a11 a12 a13 a14 a15 a16 a17 a18 a19 a20 a21 a22 a23))
def u9 (u : (α → Tri) → α → Tri) (k : T24 α → Tri) (t : T24 α) : Tri := t (fun a0 a1 a2 a3 a4 a5 a6 a7 a8 a9 a10 a11 a12 a13 a14 a15 a16 a17 a18 a19 a20 a21 a22 a23 => u (fun v => k (fun s => s a0 a1 a2 a3 a4 a5 a6 a7 a8 v a10 a11 a12 a13 a14 a15 a16 a17 a18 a19 a20 a21 a22 a23)) a9)
def g10 (k : α → Tri) (t : T24 α) : Tri := t (fun _ _ _ _ _ _ _ _ _ _ a10 _ _ _ _ _ _ _ _ _ _ _ _ _ => k a10)
def s10 (v : α) (k : T24 α → Tri) (t : T24 α) : Tri := t (fun a0 a1 a2 a3 a4 a5 a6 a7 a8 a9 _ a11 a12 a13 a14 a15 a16 a17 a18 a19 a20 a21 a22 a23 => k (fun s => s a0 a1 a2 a3 a4 a5 a6 a7 a8 a9 v a11 a12 a13 a14 a15 a16 a17 a18 a19 a20 a21 a22 a23))
def u10 (u : (α → Tri) → α → Tri) (k : T24 α → Tri) (t : T24 α) : Tri := t (fun a0 a1 a2 a3 a4 a5 a6 a7 a8 a9 a10 a11 a12 a13 a14 a15 a16 a17 a18 a19 a20 a21 a22 a23 => u (fun v => k (fun s => s a0 a1 a2 a3 a4 a5 a6 a7 a8 a9 v a11 a12 a13 a14 a15 a16 a17 a18 a19 a20 a21 a22 a23)) a10)
def g11 (k : α → Tri) (t : T24 α) : Tri := t (fun _ _ _ _ _ _ _ _ _ _ _ a11 _ _ _ _ _ _ _ _ _ _ _ _ => k a11)
def s11 (v : α) (k : T24 α → Tri) (t : T24 α) : Tri := t (fun a0 a1 a2 a3 a4 a5 a6 a7 a8 a9 a10 _ a12 a13 a14 a15 a16 a17 a18 a19 a20 a21 a22 a23 => k (fun s => s a0 a1 a2 a3 a4 a5 a6 a7 a8 a9 a10 v a12 a13 a14 a15 a16 a17 a18 a19 a20 a21 a22 a23))
def u11 (u : (α → Tri) → α → Tri) (k : T24 α → Tri) (t : T24 α) : Tri := t (fun a0 a1 a2 a3 a4 a5 a6 a7 a8 a9 a10 a11 a12 a13 a14 a15 a16 a17 a18 a19 a20 a21 a22 a23 => u (fun v => k (fun s => s a0 a1 a2 a3 a4 a5 a6 a7 a8 a9 a10 v a12 a13 a14 a15 a16 a17 a18 a19 a20 a21 a22 a23)) a11)
def g12 (k : α → Tri) (t : T24 α) : Tri := t (fun _ _ _ _ _ _ _ _ _ _ _ _ a12 _ _ _ _ _ _ _ _ _ _ _ => k a12)
def s12 (v : α) (k : T24 α → Tri) (t : T24 α) : Tri := t (fun a0 a1 a2 a3 a4 a5 a6 a7 a8 a9 a10 a11 _ a13 a14 a15 a16 a17 a18 a19 a20 a21 a22 a23 => k (fun s => s a0 a1 a2 a3 a4 a5 a6 a7 a8 a9 a10 a11 v a13 a14 a15 a16 a17 a18 a19 a20 a21 a22 a23))
def u12 (u : (α → Tri) → α → Tri) (k : T24 α → Tri) (t : T24 α) : Tri := t (fun a0 a1 a2 a3 a4 a5 a6 a7 a8 a9 a10 a11 a12 a13 a14 a15 a16 a17 a18 a19 a20 a21 a22 a23 => u (fun v => k (fun s => s a0 a1 a2 a3 a4 a5 a6 a7 a8 a9 a10 a11 v a13 a14 a15 a16 a17 a18 a19 a20 a21 a22 a23)) a12)
def g13 (k : α → Tri) (t : T24 α) : Tri := t (fun _ _ _ _ _ _ _ _ _ _ _ _ _ a13 _ _ _ _ _ _ _ _ _ _ => k a13)
def s13 (v : α) (k : T24 α → Tri) (t : T24 α) : Tri := t (fun a0 a1 a2 a3 a4 a5 a6 a7 a8 a9 a10 a11 a12 _ a14 a15 a16 a17 a18 a19 a20 a21 a22 a23 => k (fun s => s a0 a1 a2 a3 a4 a5 a6 a7 a8 a9 a10 a11 a12 v a14 a15 a16 a17 a18 a19 a20 a21 a22 a23))
def u13 (u : (α → Tri) → α → Tri) (k : T24 α → Tri) (t : T24 α) : Tri := t (fun a0 a1 a2 a3 a4 a5 a6 a7 a8 a9 a10 a11 a12 a13 a14 a15 a16 a17 a18 a19 a20 a21 a22 a23 => u (fun v => k (fun s => s a0 a1 a2 a3 a4 a5 a6 a7 a8 a9 a10 a11 a12 v a14 a15 a16 a17 a18 a19 a20 a21 a22 a23)) a13)
def g14 (k : α → Tri) (t : T24 α) : Tri := t (fun _ _ _ _ _ _ _ _ _ _ _ _ _ _ a14 _ _ _ _ _ _ _ _ _ => k a14)
def s14 (v : α) (k : T24 α → Tri) (t : T24 α) : Tri := t (fun a0 a1 a2 a3 a4 a5 a6 a7 a8 a9 a10 a11 a12 a13 _ a15 a16 a17 a18 a19 a20 a21 a22 a23 => k (fun s => s a0 a1 a2 a3 a4 a5 a6 a7 a8 a9 a10 a11 a12 a13 v a15 a16 a17 a18 a19 a20 a21 a22 a23))
def u14 (u : (α → Tri) → α → Tri) (k : T24 α → Tri) (t : T24 α) : Tri := t (fun a0 a1 a2 a3 a4 a5 a6 a7 a8 a9 a10 a11 a12 a13 a14 a15 a16 a17 a18 a19 a20 a21 a22 a23 => u (fun v => k (fun s => s a0 a1 a2 a3 a4 a5 a6 a7 a8 a9 a10 a11 a12 a13 v a15 a16 a17 a18 a19 a20 a21 a22 a23)) a14)
def g15 (k : α → Tri) (t : T24 α) : Tri := t (fun _ _ _ _ _ _ _ _ _ _ _ _ _ _ _ a15 _ _ _ _ _ _ _ _ => k a15)
def s15 (v : α) (k : T24 α → Tri) (t : T24 α) : Tri := t (fun a0 a1 a2 a3 a4 a5 a6 a7 a8 a9 a10 a11 a12 a13 a14 _ a16 a17 a18 a19 a20 a21 a22 a23 => k (fun s => s a0 a1 a2 a3 a4 a5 a6 a7 a8 a9 a10 a11 a12 a13 a14 v a16 a17 a18 a19 a20 a21 a22 a23))
def u15 (u : (α → Tri) → α → Tri) (k : T24 α → Tri) (t : T24 α) : Tri := t (fun a0 a1 a2 a3 a4 a5 a6 a7 a8 a9 a10 a11 a12 a13 a14 a15 a16 a17 a18 a19 a20 a21 a22 a23 => u (fun v => k (fun s => s a0 a1 a2 a3 a4 a5 a6 a7 a8 a9 a10 a11 a12 a13 a14 v a16 a17 a18 a19 a20 a21 a22 a23)) a15)
def g16 (k : α → Tri) (t : T24 α) : Tri := t (fun _ _ _ _ _ _ _ _ _ _ _ _ _ _ _ _ a16 _ _ _ _ _ _ _ => k a16)
def s16 (v : α) (k : T24 α → Tri) (t : T24 α) : Tri := t (fun a0 a1 a2 a3 a4 a5 a6 a7 a8 a9 a10 a11 a12 a13 a14 a15 _ a17 a18 a19 a20 a21 a22 a23 => k (fun s => s a0 a1 a2 a3 a4 a5 a6 a7 a8 a9 a10 a11 a12 a13 a14 a15 v a17 a18 a19 a20 a21 a22 a23))
def u16 (u : (α → Tri) → α → Tri) (k : T24 α → Tri) (t : T24 α) : Tri := t (fun a0 a1 a2 a3 a4 a5 a6 a7 a8 a9 a10 a11 a12 a13 a14 a15 a16 a17 a18 a19 a20 a21 a22 a23 => u (fun v => k (fun s => s a0 a1 a2 a3 a4 a5 a6 a7 a8 a9 a10 a11 a12 a13 a14 a15 v a17 a18 a19 a20 a21 a22 a23)) a16)
def g17 (k : α → Tri) (t : T24 α) : Tri := t (fun _ _ _ _ _ _ _ _ _ _ _ _ _ _ _ _ _ a17 _ _ _ _ _ _ => k a17)
def s17 (v : α) (k : T24 α → Tri) (t : T24 α) : Tri := t (fun a0 a1 a2 a3 a4 a5 a6 a7 a8 a9 a10 a11 a12 a13 a14 a15 a16 _ a18 a19 a20 a21 a22 a23 => k (fun s => s a0 a1 a2 a3 a4 a5 a6 a7 a8 a9 a10 a11 a12 a13 a14 a15 a16 v a18 a19 a20 a21 a22 a23))
def u17 (u : (α → Tri) → α → Tri) (k : T24 α → Tri) (t : T24 α) : Tri := t (fun a0 a1 a2 a3 a4 a5 a6 a7 a8 a9 a10 a11 a12 a13 a14 a15 a16 a17 a18 a19 a20 a21 a22 a23 => u (fun v => k (fun s => s a0 a1 a2 a3 a4 a5 a6 a7 a8 a9 a10 a11 a12 a13 a14 a15 a16 v a18 a19 a20 a21 a22 a23)) a17)
def g18 (k : α → Tri) (t : T24 α) : Tri := t (fun _ _ _ _ _ _ _ _ _ _ _ _ _ _ _ _ _ _ a18 _ _ _ _ _ => k a18)
def s18 (v : α) (k : T24 α → Tri) (t : T24 α) : Tri := t (fun a0 a1 a2 a3 a4 a5 a6 a7 a8 a9 a10 a11 a12 a13 a14 a15 a16 a17 _ a19 a20 a21 a22 a23 => k (fun s => s a0 a1 a2 a3 a4 a5 a6 a7 a8 a9 a10 a11 a12 a13 a14 a15 a16 a17 v a19 a20 a21 a22 a23))
def u18 (u : (α → Tri) → α → Tri) (k : T24 α → Tri) (t : T24 α) : Tri := t (fun a0 a1 a2 a3 a4 a5 a6 a7 a8 a9 a10 a11 a12 a13 a14 a15 a16 a17 a18 a19 a20 a21 a22 a23 => u (fun v => k (fun s => s a0 a1 a2 a3 a4 a5 a6 a7 a8 a9 a10 a11 a12 a13 a14 a15 a16 a17 v a19 a20 a21 a22 a23)) a18)
def g19 (k : α → Tri) (t : T24 α) : Tri := t (fun _ _ _ _ _ _ _ _ _ _ _ _ _ _ _ _ _ _ _ a19 _ _ _ _ => k a19)
def s19 (v : α) (k : T24 α → Tri) (t : T24 α) : Tri := t (fun a0 a1 a2 a3 a4 a5 a6 a7 a8 a9 a10 a11 a12 a13 a14 a15 a16 a17 a18 _ a20 a21 a22 a23 => k (fun s => s a0 a1 a2 a3 a4 a5 a6 a7 a8 a9 a10 a11 a12 a13 a14 a15 a16 a17 a18 v a20 a21 a22 a23))
def u19 (u : (α → Tri) → α → Tri) (k : T24 α → Tri) (t : T24 α) : Tri := t (fun a0 a1 a2 a3 a4 a5 a6 a7 a8 a9 a10 a11 a12 a13 a14 a15 a16 a17 a18 a19 a20 a21 a22 a23 => u (fun v => k (fun s => s a0 a1 a2 a3 a4 a5 a6 a7 a8 a9 a10 a11 a12 a13 a14 a15 a16 a17 a18 v a20 a21 a22 a23)) a19)
def g20 (k : α → Tri) (t : T24 α) : Tri := t (fun _ _ _ _ _ _ _ _ _ _ _ _ _ _ _ _ _ _ _ _ a20 _ _ _ => k a20)
def s20 (v : α) (k : T24 α → Tri) (t : T24 α) : Tri := t (fun a0 a1 a2 a3 a4 a5 a6 a7 a8 a9 a10 a11 a12 a13 a14 a15 a16 a17 a18 a19 _ a21 a22 a23 => k (fun s => s a0 a1 a2 a3 a4 a5 a6 a7 a8 a9 a10 a11 a12 a13 a14 a15 a16 a17 a18 a19 v a21 a22 a23))
def u20 (u : (α → Tri) → α → Tri) (k : T24 α → Tri) (t : T24 α) : Tri := t (fun a0 a1 a2 a3 a4 a5 a6 a7 a8 a9 a10 a11 a12 a13 a14 a15 a16 a17 a18 a19 a20 a21 a22 a23 => u (fun v => k (fun s => s a0 a1 a2 a3 a4 a5 a6 a7 a8 a9 a10 a11 a12 a13 a14 a15 a16 a17 a18 a19 v a21 a22 a23)) a20)
def g21 (k : α → Tri) (t : T24 α) : Tri := t (fun _ _ _ _ _ _ _ _ _ _ _ _ _ _ _ _ _ _ _ _ _ a21 _ _ => k a21)
def s21 (v : α) (k : T24 α → Tri) (t : T24 α) : Tri := t (fun a0 a1 a2 a3 a4 a5 a6 a7 a8 a9 a10 a11 a12 a13 a14 a15 a16 a17 a18 a19 a20 _ a22 a23 => k (fun s => s a0 a1 a2 a3 a4 a5 a6 a7 a8 a9 a10 a11 a12 a13 a14 a15 a16 a17 a18 a19 a20 v a22 a23))
def u21 (u : (α → Tri) → α → Tri) (k : T24 α → Tri) (t : T24 α) : Tri := t (fun a0 a1 a2 a3 a4 a5 a6 a7 a8 a9 a10 a11 a12 a13 a14 a15 a16 a17 a18 a19 a20 a21 a22 a23 => u (fun v => k (fun s => s a0 a1 a2 a3 a4 a5 a6 a7 a8 a9 a10 a11 a12 a13 a14 a15 a16 a17 a18 a19 a20 v a22 a23)) a21)
def g22 (k : α → Tri) (t : T24 α) : Tri := t (fun _ _ _ _ _ _ _ _ _ _ _ _ _ _ _ _ _ _ _ _ _ _ a22 _ => k a22)
def s22 (v : α) (k : T24 α → Tri) (t : T24 α) : Tri := t (fun a0 a1 a2 a3 a4 a5 a6 a7 a8 a9 a10 a11 a12 a13 a14 a15 a16 a17 a18 a19 a20 a21 _ a23 => k (fun s => s a0 a1 a2 a3 a4 a5 a6 a7 a8 a9 a10 a11 a12 a13 a14 a15 a16 a17 a18 a19 a20 a21 v a23))
def u22 (u : (α → Tri) → α → Tri) (k : T24 α → Tri) (t : T24 α) : Tri := t (fun a0 a1 a2 a3 a4 a5 a6 a7 a8 a9 a10 a11 a12 a13 a14 a15 a16 a17 a18 a19 a20 a21 a22 a23 => u (fun v => k (fun s => s a0 a1 a2 a3 a4 a5 a6 a7 a8 a9 a10 a11 a12 a13 a14 a15 a16 a17 a18 a19 a20 a21 v a23)) a22)
def g23 (k : α → Tri) (t : T24 α) : Tri := t (fun _ _ _ _ _ _ _ _ _ _ _ _ _ _ _ _ _ _ _ _ _ _ _ a23 => k a23)
def s23 (v : α) (k : T24 α → Tri) (t : T24 α) : Tri := t (fun a0 a1 a2 a3 a4 a5 a6 a7 a8 a9 a10 a11 a12 a13 a14 a15 a16 a17 a18 a19 a20 a21 a22 _ => k (fun s => s a0 a1 a2 a3 a4 a5 a6 a7 a8 a9 a10 a11 a12 a13 a14 a15 a16 a17 a18 a19 a20 a21 a22 v))
def u23 (u : (α → Tri) → α → Tri) (k : T24 α → Tri) (t : T24 α) : Tri := t (fun a0 a1 a2 a3 a4 a5 a6 a7 a8 a9 a10 a11 a12 a13 a14 a15 a16 a17 a18 a19 a20 a21 a22 a23 => u (fun v => k (fun s => s a0 a1 a2 a3 a4 a5 a6 a7 a8 a9 a10 a11 a12 a13 a14 a15 a16 a17 a18 a19 a20 a21 a22 v)) a23)
/-- Which reader. -/
def gSel {β : Type} (n : Nat) (no : β) (K : ((α → Tri) → T24 α → Tri) → β) : β := Nat.rec (motive := fun _ => β) (K g0) (fun m _ => Nat.rec (motive := fun _ => β) (K g1) (fun m _ => Nat.rec (motive := fun _ => β) (K g2) (fun m _ => Nat.rec (motive := fun _ => β) (K g3) (fun m _ => Nat.rec (motive := fun _ => β) (K g4) (fun m _ => Nat.rec (motive := fun _ => β) (K g5) (fun m _ => Nat.rec (motive := fun _ => β) (K g6) (fun m _ => Nat.rec (motive := fun _ => β) (K g7) (fun m _ => Nat.rec (motive := fun _ => β) (K g8) (fun m _ => Nat.rec (motive := fun _ => β) (K g9) (fun m _ => Nat.rec (motive := fun _ => β) (K g10) (fun m _ => Nat.rec (motive := fun _ => β) (K g11) (fun m _ => Nat.rec (motive := fun _ => β) (K g12) (fun m _ => Nat.rec (motive := fun _ => β) (K g13) (fun m _ => Nat.rec (motive := fun _ => β) (K g14) (fun m _ => Nat.rec (motive := fun _ => β) (K g15) (fun m _ => Nat.rec (motive := fun _ => β) (K g16) (fun m _ => Nat.rec (motive := fun _ => β) (K g17) (fun m _ => Nat.rec (motive := fun _ => β) (K g18) (fun m _ => Nat.rec (motive := fun _ => β) (K g19) (fun m _ => Nat.rec (motive := fun _ => β) (K g20) (fun m _ => Nat.rec (motive := fun _ => β) (K g21) (fun m _ => Nat.rec (motive := fun _ => β) (K g22) (fun m _ => Nat.rec (motive := fun _ => β) (K g23) (fun m _ => no) m) m) m) m) m) m) m) m) m) m) m) m) m) m) m) m) m) m) m) m) m) m) m) n
/-- Which writer. -/
def sSel {β : Type} (n : Nat) (no : β) (K : (α → (T24 α → Tri) → T24 α → Tri) → β) : β := Nat.rec (motive := fun _ => β) (K s0) (fun m _ => Nat.rec (motive := fun _ => β) (K s1) (fun m _ => Nat.rec (motive := fun _ => β) (K s2) (fun m _ => Nat.rec (motive := fun _ => β) (K s3) (fun m _ => Nat.rec (motive := fun _ => β) (K s4) (fun m _ => Nat.rec (motive := fun _ => β) (K s5) (fun m _ => Nat.rec (motive := fun _ => β) (K s6) (fun m _ => Nat.rec (motive := fun _ => β) (K s7) (fun m _ => Nat.rec (motive := fun _ => β) (K s8) (fun m _ => Nat.rec (motive := fun _ => β) (K s9) (fun m _ => Nat.rec (motive := fun _ => β) (K s10) (fun m _ => Nat.rec (motive := fun _ => β) (K s11) (fun m _ => Nat.rec (motive := fun _ => β) (K s12) (fun m _ => Nat.rec (motive := fun _ => β) (K s13) (fun m _ => Nat.rec (motive := fun _ => β) (K s14) (fun m _ => Nat.rec (motive := fun _ => β) (K s15) (fun m _ => Nat.rec (motive := fun _ => β) (K s16) (fun m _ => Nat.rec (motive := fun _ => β) (K s17) (fun m _ => Nat.rec (motive := fun _ => β) (K s18) (fun m _ => Nat.rec (motive := fun _ => β) (K s19) (fun m _ => Nat.rec (motive := fun _ => β) (K s20) (fun m _ => Nat.rec (motive := fun _ => β) (K s21) (fun m _ => Nat.rec (motive := fun _ => β) (K s22) (fun m _ => Nat.rec (motive := fun _ => β) (K s23) (fun m _ => no) m) m) m) m) m) m) m) m) m) m) m) m) m) m) m) m) m) m) m) m) m) m) m) n
/-- Which changer. -/
def uSel {β : Type} (n : Nat) (no : β) (K : (((α → Tri) → α → Tri) → (T24 α → Tri) → T24 α → Tri) → β) : β := Nat.rec (motive := fun _ => β) (K u0) (fun m _ => Nat.rec (motive := fun _ => β) (K u1) (fun m _ => Nat.rec (motive := fun _ => β) (K u2) (fun m _ => Nat.rec (motive := fun _ => β) (K u3) (fun m _ => Nat.rec (motive := fun _ => β) (K u4) (fun m _ => Nat.rec (motive := fun _ => β) (K u5) (fun m _ => Nat.rec (motive := fun _ => β) (K u6) (fun m _ => Nat.rec (motive := fun _ => β) (K u7) (fun m _ => Nat.rec (motive := fun _ => β) (K u8) (fun m _ => Nat.rec (motive := fun _ => β) (K u9) (fun m _ => Nat.rec (motive := fun _ => β) (K u10) (fun m _ => Nat.rec (motive := fun _ => β) (K u11) (fun m _ => Nat.rec (motive := fun _ => β) (K u12) (fun m _ => Nat.rec (motive := fun _ => β) (K u13) (fun m _ => Nat.rec (motive := fun _ => β) (K u14) (fun m _ => Nat.rec (motive := fun _ => β) (K u15) (fun m _ => Nat.rec (motive := fun _ => β) (K u16) (fun m _ => Nat.rec (motive := fun _ => β) (K u17) (fun m _ => Nat.rec (motive := fun _ => β) (K u18) (fun m _ => Nat.rec (motive := fun _ => β) (K u19) (fun m _ => Nat.rec (motive := fun _ => β) (K u20) (fun m _ => Nat.rec (motive := fun _ => β) (K u21) (fun m _ => Nat.rec (motive := fun _ => β) (K u22) (fun m _ => Nat.rec (motive := fun _ => β) (K u23) (fun m _ => no) m) m) m) m) m) m) m) m) m) m) m) m) m) m) m) m) m) m) m) m) m) m) m) n
/-- A row, changed in one place. -/
def upd (f : Nat → α) (i : Nat) (v : α) : Nat → α := fun j => if j = i then v else f j
theorem gSel_eq {β : Type} (n : Nat) (no : β) (K : ((α → Tri) → T24 α → Tri) → β) : gSel n no K = no ∨ ∃ g, gSel n no K = K g ∧ ∀ f k, g k (mk24 f) = k (f n) := by
  rcases n with _ | (_ | (_ | (_ | (_ | (_ | (_ | (_ | (_ | (_ | (_ | (_ | (_ | (_ | (_ | (_ | (_ | (_ | (_ | (_ | (_ | (_ | (_ | (_ | _)))))))))))))))))))))))
  · exact .inr ⟨_, rfl, fun _ _ => rfl⟩
  · exact .inr ⟨_, rfl, fun _ _ => rfl⟩
  · exact .inr ⟨_, rfl, fun _ _ => rfl⟩
  · exact .inr ⟨_, rfl, fun _ _ => rfl⟩
  · exact .inr ⟨_, rfl, fun _ _ => rfl⟩
  · exact .inr ⟨_, rfl, fun _ _ => rfl⟩
  · exact .inr ⟨_, rfl, fun _ _ => rfl⟩
  · exact .inr ⟨_, rfl, fun _ _ => rfl⟩
  · exact .inr ⟨_, rfl, fun _ _ => rfl⟩
  · exact .inr ⟨_, rfl, fun _ _ => rfl⟩
  · exact .inr ⟨_, rfl, fun _ _ => rfl⟩
  · exact .inr ⟨_, rfl, fun _ _ => rfl⟩
  · exact .inr ⟨_, rfl, fun _ _ => rfl⟩
  · exact .inr ⟨_, rfl, fun _ _ => rfl⟩
  · exact .inr ⟨_, rfl, fun _ _ => rfl⟩
  · exact .inr ⟨_, rfl, fun _ _ => rfl⟩
  · exact .inr ⟨_, rfl, fun _ _ => rfl⟩
  · exact .inr ⟨_, rfl, fun _ _ => rfl⟩
  · exact .inr ⟨_, rfl, fun _ _ => rfl⟩
  · exact .inr ⟨_, rfl, fun _ _ => rfl⟩
  · exact .inr ⟨_, rfl, fun _ _ => rfl⟩
  · exact .inr ⟨_, rfl, fun _ _ => rfl⟩
  · exact .inr ⟨_, rfl, fun _ _ => rfl⟩
  · exact .inr ⟨_, rfl, fun _ _ => rfl⟩
  · exact .inl rfl
theorem sSel_eq {β : Type} (n : Nat) (no : β) (K : (α → (T24 α → Tri) → T24 α → Tri) → β) : sSel n no K = no ∨ ∃ g, sSel n no K = K g ∧ ∀ f v k, g v k (mk24 f) = k (mk24 (upd f n v)) := by
  rcases n with _ | (_ | (_ | (_ | (_ | (_ | (_ | (_ | (_ | (_ | (_ | (_ | (_ | (_ | (_ | (_ | (_ | (_ | (_ | (_ | (_ | (_ | (_ | (_ | _)))))))))))))))))))))))
  · exact .inr ⟨_, rfl, fun _ _ _ => rfl⟩
  · exact .inr ⟨_, rfl, fun _ _ _ => rfl⟩
  · exact .inr ⟨_, rfl, fun _ _ _ => rfl⟩
  · exact .inr ⟨_, rfl, fun _ _ _ => rfl⟩
  · exact .inr ⟨_, rfl, fun _ _ _ => rfl⟩
  · exact .inr ⟨_, rfl, fun _ _ _ => rfl⟩
  · exact .inr ⟨_, rfl, fun _ _ _ => rfl⟩
  · exact .inr ⟨_, rfl, fun _ _ _ => rfl⟩
  · exact .inr ⟨_, rfl, fun _ _ _ => rfl⟩
  · exact .inr ⟨_, rfl, fun _ _ _ => rfl⟩
  · exact .inr ⟨_, rfl, fun _ _ _ => rfl⟩
  · exact .inr ⟨_, rfl, fun _ _ _ => rfl⟩
  · exact .inr ⟨_, rfl, fun _ _ _ => rfl⟩
  · exact .inr ⟨_, rfl, fun _ _ _ => rfl⟩
  · exact .inr ⟨_, rfl, fun _ _ _ => rfl⟩
  · exact .inr ⟨_, rfl, fun _ _ _ => rfl⟩
  · exact .inr ⟨_, rfl, fun _ _ _ => rfl⟩
  · exact .inr ⟨_, rfl, fun _ _ _ => rfl⟩
  · exact .inr ⟨_, rfl, fun _ _ _ => rfl⟩
  · exact .inr ⟨_, rfl, fun _ _ _ => rfl⟩
  · exact .inr ⟨_, rfl, fun _ _ _ => rfl⟩
  · exact .inr ⟨_, rfl, fun _ _ _ => rfl⟩
  · exact .inr ⟨_, rfl, fun _ _ _ => rfl⟩
  · exact .inr ⟨_, rfl, fun _ _ _ => rfl⟩
  · exact .inl rfl
theorem uSel_eq {β : Type} (n : Nat) (no : β) (K : (((α → Tri) → α → Tri) → (T24 α → Tri) → T24 α → Tri) → β) : uSel n no K = no ∨ ∃ g, uSel n no K = K g ∧ ∀ f u k, g u k (mk24 f) = u (fun v => k (mk24 (upd f n v))) (f n) := by
  rcases n with _ | (_ | (_ | (_ | (_ | (_ | (_ | (_ | (_ | (_ | (_ | (_ | (_ | (_ | (_ | (_ | (_ | (_ | (_ | (_ | (_ | (_ | (_ | (_ | _)))))))))))))))))))))))
  · exact .inr ⟨_, rfl, fun _ _ _ => rfl⟩
  · exact .inr ⟨_, rfl, fun _ _ _ => rfl⟩
  · exact .inr ⟨_, rfl, fun _ _ _ => rfl⟩
  · exact .inr ⟨_, rfl, fun _ _ _ => rfl⟩
  · exact .inr ⟨_, rfl, fun _ _ _ => rfl⟩
  · exact .inr ⟨_, rfl, fun _ _ _ => rfl⟩
  · exact .inr ⟨_, rfl, fun _ _ _ => rfl⟩
  · exact .inr ⟨_, rfl, fun _ _ _ => rfl⟩
  · exact .inr ⟨_, rfl, fun _ _ _ => rfl⟩
  · exact .inr ⟨_, rfl, fun _ _ _ => rfl⟩
  · exact .inr ⟨_, rfl, fun _ _ _ => rfl⟩
  · exact .inr ⟨_, rfl, fun _ _ _ => rfl⟩
  · exact .inr ⟨_, rfl, fun _ _ _ => rfl⟩
  · exact .inr ⟨_, rfl, fun _ _ _ => rfl⟩
  · exact .inr ⟨_, rfl, fun _ _ _ => rfl⟩
  · exact .inr ⟨_, rfl, fun _ _ _ => rfl⟩
  · exact .inr ⟨_, rfl, fun _ _ _ => rfl⟩
  · exact .inr ⟨_, rfl, fun _ _ _ => rfl⟩
  · exact .inr ⟨_, rfl, fun _ _ _ => rfl⟩
  · exact .inr ⟨_, rfl, fun _ _ _ => rfl⟩
  · exact .inr ⟨_, rfl, fun _ _ _ => rfl⟩
  · exact .inr ⟨_, rfl, fun _ _ _ => rfl⟩
  · exact .inr ⟨_, rfl, fun _ _ _ => rfl⟩
  · exact .inr ⟨_, rfl, fun _ _ _ => rfl⟩
  · exact .inl rfl

abbrev F := T24 (T24 AV)
/-- A frame's content. -/
def mkF (f : Nat → AV) : F := mk24 fun i => mk24 fun j => f (24 * i + j)
/-- The reader of a slot; the writer. -/
def fGet {β : Type} (p : Pos) (no : β) (K : ((AV → Tri) → F → Tri) → β) : β :=
  gSel (p.num / 24) no fun r => gSel (p.num % 24) no fun c => K fun k t => r (fun u => c k u) t
def fSet {β : Type} (p : Pos) (no : β) (K : (AV → (F → Tri) → F → Tri) → β) : β :=
  uSel (p.num / 24) no fun r => sSel (p.num % 24) no fun c => K fun v k t => chk (r (fun k u => c v k u) k t) v

theorem mk24_congr {f g : Nat → α} (h : ∀ j, j < 24 → f j = g j) : mk24 f = mk24 g := by
  unfold mk24
  funext s
  rw [h 0 (by omega), h 1 (by omega), h 2 (by omega), h 3 (by omega), h 4 (by omega), h 5 (by omega), h 6 (by omega), h 7 (by omega), h 8 (by omega), h 9 (by omega), h 10 (by omega), h 11 (by omega), h 12 (by omega), h 13 (by omega), h 14 (by omega), h 15 (by omega), h 16 (by omega), h 17 (by omega), h 18 (by omega), h 19 (by omega), h 20 (by omega), h 21 (by omega), h 22 (by omega), h 23 (by omega)]

theorem mkF_upd (f : Nat → AV) (n : Nat) (v : AV) (h : n / 24 < 24) : mk24 (upd (fun i => mk24 fun j => f (24 * i + j)) (n / 24) (mk24 (upd (fun j => f (24 * (n / 24) + j)) (n % 24) v))) = mkF (upd f n v) := by
  have hn := Nat.div_add_mod n 24
  unfold mkF
  refine mk24_congr fun i _ => ?_
  unfold upd
  by_cases hi : i = n / 24
  · rw [if_pos hi]
    subst hi
    refine mk24_congr fun j hj => ?_
    by_cases hj2 : j = n % 24
    · rw [if_pos hj2, if_pos (by omega)]
    · rw [if_neg hj2, if_neg (by omega)]
  · rw [if_neg hi]
    refine mk24_congr fun j hj => ?_
    rw [if_neg (by omega)]


theorem gSel_lt {β : Type} {n : Nat} {no : β} {K : ((α → Tri) → T24 α → Tri) → β} (h : 24 ≤ n) : gSel n no K = no := by
  obtain ⟨m, rfl⟩ : ∃ m, n = m + 24 := ⟨n - 24, by omega⟩
  rfl
theorem uSel_lt {β : Type} {n : Nat} {no : β} {K : (((α → Tri) → α → Tri) → (T24 α → Tri) → T24 α → Tri) → β} (h : 24 ≤ n) : uSel n no K = no := by
  obtain ⟨m, rfl⟩ : ∃ m, n = m + 24 := ⟨n - 24, by omega⟩
  rfl

theorem fGet_eq {β : Type} (p : Pos) (no : β) (K : ((AV → Tri) → F → Tri) → β) : fGet p no K = no ∨ ∃ g, fGet p no K = K g ∧ ∀ f k, g k (mkF f) = k (f p.num) := by
  unfold fGet
  rcases gSel_eq (p.num / 24) no (fun r => gSel (p.num % 24) no fun c => K fun k t => r (fun u => c k u) t) with h | ⟨r, h, hr⟩
  · exact .inl h
  rw [h]
  rcases gSel_eq (p.num % 24) no (fun c => K fun k t => r (fun u => c k u) t) with h | ⟨c, h, hc⟩
  · exact .inl h
  rw [h]
  refine .inr ⟨_, rfl, fun f k => ?_⟩
  show r (fun u => c k u) (mkF f) = _
  unfold mkF
  rw [hr, hc, Nat.div_add_mod]

theorem fSet_eq {β : Type} (p : Pos) (no : β) (K : (AV → (F → Tri) → F → Tri) → β) : fSet p no K = no ∨ ∃ g, fSet p no K = K g ∧ ∀ f v k, g v k (mkF f) = chk (k (mkF (upd f p.num v))) v := by
  unfold fSet
  by_cases hlt : p.num / 24 < 24
  · rcases uSel_eq (p.num / 24) no (fun r => sSel (p.num % 24) no fun c => K fun v k t => chk (r (fun k u => c v k u) k t) v) with h | ⟨r, h, hr⟩
    · exact .inl h
    rw [h]
    rcases sSel_eq (p.num % 24) no (fun c => K fun v k t => chk (r (fun k u => c v k u) k t) v) with h | ⟨c, h, hc⟩
    · exact .inl h
    rw [h]
    refine .inr ⟨_, rfl, fun f v k => ?_⟩
    show chk (r (fun k u => c v k u) k (mkF f)) v = _
    unfold mkF
    rw [hr, hc]
    show chk (k (mk24 (upd (fun i => mk24 fun j => f (24 * i + j)) (p.num / 24) (mk24 (upd (fun j => f (24 * (p.num / 24) + j)) (p.num % 24) v))))) v = _
    rw [mkF_upd f p.num v hlt]
    rfl
  · exact .inl (uSel_lt (by omega))

/-- The slots of a frame: what lies there is what the other frame has; where '.nil' does, that one has nothing. -/
def RFx (f : Nat → AV) (fr : Tr AV) : Prop := (∀ p : Pos, f p.num ≠ .nil → fr.get p = some (f p.num)) ∧ ∀ p : Pos, f p.num = .nil → fr.get p = none
def RF (t : F) (fr : Tr AV) : Prop := ∃ f : Nat → AV, t = mkF f ∧ RFx f fr
def empty : F := mkF fun _ => .nil
theorem RF.empty : RF empty .leaf := ⟨_, rfl, fun _ h => absurd rfl h, fun _ _ => Tr.get_leaf _⟩
theorem RFx.set {fr : Tr AV} {p : Pos} {v : AV} {f : Nat → AV} (h : RFx f fr) (hv : v ≠ .nil) : RFx (upd f p.num v) (fr.set p v) := by
  refine ⟨fun q hq => ?_, fun q hq => ?_⟩
  · rw [Tr.get_set]
    unfold upd at hq ⊢
    by_cases e : q.num = p.num
    · rw [if_pos e, if_pos (Pos.num_inj e)]
    · rw [if_neg e] at hq ⊢
      rw [if_neg (fun h => e (by rw [h]))]
      exact h.1 q hq
  · rw [Tr.get_set]
    unfold upd at hq
    by_cases e : q.num = p.num
    · rw [if_pos e] at hq; exact absurd hq hv
    · rw [if_neg e] at hq
      rw [if_neg (fun h => e (by rw [h]))]
      exact h.2 q hq
theorem RF.set {fr : Tr AV} {p : Pos} {v : AV} {f : Nat → AV} (h : RFx f fr) (hv : v ≠ .nil) : RF (mkF (upd f p.num v)) (fr.set p v) := ⟨_, rfl, h.set hv⟩
end
end Go.Dx.K
