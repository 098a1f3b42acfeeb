/-
  The twin for the kernel: frames. Printed by kfr.py.
-/
import Derived.Test.YthpnhdopheofcaaDxKa
namespace Go.Dx.K
open Go.Dx

noncomputable section
variable {α : Type}
abbrev T16 (α : Type) := (α → α → α → α → α → α → α → α → α → α → α → α → α → α → α → α → Tri) → Tri
def mk16 (f : Nat → α) : T16 α := fun s => s (f 0) (f 1) (f 2) (f 3) (f 4) (f 5) (f 6) (f 7) (f 8) (f 9) (f 10) (f 11) (f 12) (f 13) (f 14) (f 15)
def g0 (k : α → Tri) (t : T16 α) : Tri := t (fun a0 _ _ _ _ _ _ _ _ _ _ _ _ _ _ _ => k a0)
def s0 (v : α) (k : T16 α → Tri) (t : T16 α) : Tri := t (fun _ a1 a2 a3 a4 a5 a6 a7 a8 a9 a10 a11 a12 a13 a14 a15 => k (fun s => s v a1 a2 a3 a4 a5 a6 a7 a8 a9 a10 a11 a12 a13 a14 a15))
def u0 (u : (α → Tri) → α → Tri) (k : T16 α → Tri) (t : T16 α) : Tri := t (fun a0 a1 a2 a3 a4 a5 a6 a7 a8 a9 a10 a11 a12 a13 a14 a15 => u (fun v => k (fun s => s v a1 a2 a3 a4 a5 a6 a7 a8 a9 a10 a11 a12 a13 a14 a15)) a0)
def g1 (k : α → Tri) (t : T16 α) : Tri := t (fun _ a1 _ _ _ _ _ _ _ _ _ _ _ _ _ _ => k a1)
def s1 (v : α) (k : T16 α → Tri) (t : T16 α) : Tri := t (fun a0 _ a2 a3 a4 a5 a6 a7 a8 a9 a10 a11 a12 a13 a14 a15 => k (fun s => s a0 v a2 a3 a4 a5 a6 a7 a8 a9 a10 a11 a12 a13 a14 a15))
def u1 (u : (α → Tri) → α → Tri) (k : T16 α → Tri) (t : T16 α) : Tri := t (fun a0 a1 a2 a3 a4 a5 a6 a7 a8 a9 a10 a11 a12 a13 a14 a15 => u (fun v => k (fun s => s a0 v a2 a3 a4 a5 a6 a7 a8 a9 a10 a11 a12 a13 a14 a15)) a1)
def g2 (k : α → Tri) (t : T16 α) : Tri := t (fun _ _ a2 _ _ _ _ _ _ _ _ _ _ _ _ _ => k a2)
def s2 (v : α) (k : T16 α → Tri) (t : T16 α) : Tri := t (fun a0 a1 _ a3 a4 a5 a6 a7 a8 a9 a10 a11 a12 a13 a14 a15 => k (fun s => s a0 a1 v a3 a4 a5 a6 a7 a8 a9 a10 a11 a12 a13 a14 a15))
def u2 (u : (α → Tri) → α → Tri) (k : T16 α → Tri) (t : T16 α) : Tri := t (fun a0 a1 a2 a3 a4 a5 a6 a7 a8 a9 a10 a11 a12 a13 a14 a15 => u (fun v => k (fun s => s a0 a1 v a3 a4 a5 a6 a7 a8 a9 a10 a11 a12 a13 a14 a15)) a2)
def g3 (k : α → Tri) (t : T16 α) : Tri := t (fun _ _ _ a3 _ _ _ _ _ _ _ _ _ _ _ _ => k a3)
def s3 (v : α) (k : T16 α → Tri) (t : T16 α) : Tri := t (fun a0 a1 a2 _ a4 a5 a6 a7 a8 a9 a10 a11 a12 a13 a14 a15 => k (fun s => s a0 a1 a2 v a4 a5 a6 a7 a8 a9 a10 a11 a12 a13 a14 a15))
def u3 (u : (α → Tri) → α → Tri) (k : T16 α → Tri) (t : T16 α) : Tri := t (fun a0 a1 a2 a3 a4 a5 a6 a7 a8 a9 a10 a11 a12 a13 a14 a15 => u (fun v => k (fun s => s a0 a1 a2 v a4 a5 a6 a7 a8 a9 a10 a11 a12 a13 a14 a15)) a3)
def g4 (k : α → Tri) (t : T16 α) : Tri := t (fun _ _ _ _ a4 _ _ _ _ _ _ _ _ _ _ _ => k a4)
def s4 (v : α) (k : T16 α → Tri) (t : T16 α) : Tri := t (fun a0 a1 a2 a3 _ a5 a6 a7 a8 a9 a10 a11 a12 a13 a14 a15 => k (fun s => s a0 a1 a2 a3 v a5 a6 a7 a8 a9 a10 a11 a12 a13 a14 a15))
def u4 (u : (α → Tri) → α → Tri) (k : T16 α → Tri) (t : T16 α) : Tri := t (fun a0 a1 a2 a3 a4 a5 a6 a7 a8 a9 a10 a11 a12 a13 a14 a15 => u (fun v => k (fun s => s a0 a1 a2 a3 v a5 a6 a7 a8 a9 a10 a11 a12 a13 a14 a15)) a4)
def g5 (k : α → Tri) (t : T16 α) : Tri := t (fun _ _ _ _ _ a5 _ _ _ _ _ _ _ _ _ _ => k a5)
def s5 (v : α) (k : T16 α → Tri) (t : T16 α) : Tri := t (fun a0 a1 a2 a3 a4 _ a6 a7 a8 a9 a10 a11 a12 a13 a14 a15 => k (fun s => s a0 a1 a2 a3 a4 v a6 a7 a8 a9 a10 a11 a12 a13 a14 a15))
def u5 (u : (α → Tri) → α → Tri) (k : T16 α → Tri) (t : T16 α) : Tri := t (fun a0 a1 a2 a3 a4 a5 a6 a7 a8 a9 a10 a11 a12 a13 a14 a15 => u (fun v => k (fun s => s a0 a1 a2 a3 a4 v a6 a7 a8 a9 a10 a11 a12 a13 a14 a15)) a5)
def g6 (k : α → Tri) (t : T16 α) : Tri := t (fun _ _ _ _ _ _ a6 _ _ _ _ _ _ _ _ _ => k a6)
def s6 (v : α) (k : T16 α → Tri) (t : T16 α) : Tri := t (fun a0 a1 a2 a3 a4 a5 _ a7 a8 a9 a10 a11 a12 a13 a14 a15 => k (fun s => s a0 a1 a2 a3 a4 a5 v a7 a8 a9 a10 a11 a12 a13 a14 a15))
def u6 (u : (α → Tri) → α → Tri) (k : T16 α → Tri) (t : T16 α) : Tri := t (fun a0 a1 a2 a3 a4 a5 a6 a7 a8 a9 a10 a11 a12 a13 a14 a15 => u (fun v => k (fun s => s a0 a1 a2 a3 a4 a5 v a7 a8 a9 a10 a11 a12 a13 a14 a15)) a6)
def g7 (k : α → Tri) (t : T16 α) : Tri := t (fun _ _ _ _ _ _ _ a7 _ _ _ _ _ _ _ _ => k a7)
def s7 (v : α) (k : T16 α → Tri) (t : T16 α) : Tri := t (fun a0 a1 a2 a3 a4 a5 a6 _ a8 a9 a10 a11 a12 a13 a14 a15 => k (fun s => s a0 a1 a2 a3 a4 a5 a6 v a8 a9 a10 a11 a12 a13 a14 a15))
def u7 (u : (α → Tri) → α → Tri) (k : T16 α → Tri) (t : T16 α) : Tri := t (fun a0 a1 a2 a3 a4 a5 a6 a7 a8 a9 a10 a11 a12 a13 a14 a15 => u (fun v => k (fun s => s a0 a1 a2 a3 a4 a5 a6 v a8 a9 a10 a11 a12 a13 a14 a15)) a7)
def g8 (k : α → Tri) (t : T16 α) : Tri := t (fun _ _ _ _ _ _ _ _ a8 _ _ _ _ _ _ _ => k a8)
def s8 (v : α) (k : T16 α → Tri) (t : T16 α) : Tri := t (fun a0 a1 a2 a3 a4 a5 a6 a7 _ a9 a10 a11 a12 a13 a14 a15 => k (fun s => s a0 a1 a2 a3 a4 a5 a6 a7 v a9 a10 a11 a12 a13 a14 a15))
def u8 (u : (α → Tri) → α → Tri) (k : T16 α → Tri) (t : T16 α) : Tri := t (fun a0 a1 a2 a3 a4 a5 a6 a7 a8 a9 a10 a11 a12 a13 a14 a15 => u (fun v => k (fun s => s a0 a1 a2 a3 a4 a5 a6 a7 v a9 a10 a11 a12 a13 a14 a15)) a8)
def g9 (k : α → Tri) (t : T16 α) : Tri := t (fun _ _ _ _ _ _ _ _ _ a9 _ _ _ _ _ _ => k a9)
def s9 (v : α) (k : T16 α → Tri) (t : T16 α) : Tri := t (fun a0 a1 a2 a3 a4 a5 a6 a7 a8 _ a10 a11 a12 a13 a14 a15 => k (fun s => s a0 a1 a2 a3 a4 a5 a6 a7 a8 v a10 a11 a12 a13 a14 a15))
def u9 (u : (α → Tri) → α → Tri) (k : T16 α → Tri) (t : T16 α) : Tri := t (fun a0 a1 a2 a3 a4 a5 a6 a7 a8 a9 a10 a11 a12 a13 a14 a15 => u (fun v => k (fun s => s a0 a1 a2 a3 a4 a5 a6 a7 a8 v a10 a11 a12 a13 a14 a15)) a9)
def g10 (k : α → Tri) (t : T16 α) : Tri := t (fun _ _ _ _ _ _ _ _ _ _ a10 _ _ _ _ _ => k a10)
def s10 (v : α) (k : T16 α → Tri) (t : T16 α) : Tri := t (fun a0 a1 a2 a3 a4 a5 a6 a7 a8 a9 _ a11 a12 a13 a14 a15 => k (fun s => s a0 a1 a2 a3 a4 a5 a6 a7 a8 a9 v a11 a12 a13 a14 a15))
def u10 (u : (α → Tri) → α → Tri) (k : T16 α → Tri) (t : T16 α) : Tri := t (fun a0 a1 a2 a3 a4 a5 a6 a7 a8 a9 a10 a11 a12 a13 a14 a15 => u (fun v => k (fun s => s a0 a1 a2 a3 a4 a5 a6 a7 a8 a9 v a11 a12 a13 a14 a15)) a10)
def g11 (k : α → Tri) (t : T16 α) : Tri := t (fun _ _ _ _ _ _ _ _ _ _ _ a11 _ _ _ _ => k a11)
def s11 (v : α) (k : T16 α → Tri) (t : T16 α) : Tri := t (fun a0 a1 a2 a3 a4 a5 a6 a7 a8 a9 a10 _ a12 a13 a14 a15 => k (fun s => s a0 a1 a2 a3 a4 a5 a6 a7 a8 a9 a10 v a12 a13 a14 a15))
def u11 (u : (α → Tri) → α → Tri) (k : T16 α → Tri) (t : T16 α) : Tri := t (fun a0 a1 a2 a3 a4 a5 a6 a7 a8 a9 a10 a11 a12 a13 a14 a15 => u (fun v => k (fun s => s a0 a1 a2 a3 a4 a5 a6 a7 a8 a9 a10 v a12 a13 a14 a15)) a11)
def g12 (k : α → Tri) (t : T16 α) : Tri := t (fun _ _ _ _ _ _ _ _ _ _ _ _ a12 _ _ _ => k a12)
def s12 (v : α) (k : T16 α → Tri) (t : T16 α) : Tri := t (fun a0 a1 a2 a3 a4 a5 a6 a7 a8 a9 a10 a11 _ a13 a14 a15 => k (fun s => s a0 a1 a2 a3 a4 a5 a6 a7 a8 a9 a10 a11 v a13 a14 a15))
def u12 (u : (α → Tri) → α → Tri) (k : T16 α → Tri) (t : T16 α) : Tri := t (fun a0 a1 a2 a3 a4 a5 a6 a7 a8 a9 a10 a11 a12 a13 a14 a15 => u (fun v => k (fun s => s a0 a1 a2 a3 a4 a5 a6 a7 a8 a9 a10 a11 v a13 a14 a15)) a12)
def g13 (k : α → Tri) (t : T16 α) : Tri := t (fun _ _ _ _ _ _ _ _ _ _ _ _ _ a13 _ _ => k a13)
def s13 (v : α) (k : T16 α → Tri) (t : T16 α) : Tri := t (fun a0 a1 a2 a3 a4 a5 a6 a7 a8 a9 a10 a11 a12 _ a14 a15 => k (fun s => s a0 a1 a2 a3 a4 a5 a6 a7 a8 a9 a10 a11 a12 v a14 a15))
def u13 (u : (α → Tri) → α → Tri) (k : T16 α → Tri) (t : T16 α) : Tri := t (fun a0 a1 a2 a3 a4 a5 a6 a7 a8 a9 a10 a11 a12 a13 a14 a15 => u (fun v => k (fun s => s a0 a1 a2 a3 a4 a5 a6 a7 a8 a9 a10 a11 a12 v a14 a15)) a13)
def g14 (k : α → Tri) (t : T16 α) : Tri := t (fun _ _ _ _ _ _ _ _ _ _ _ _ _ _ a14 _ => k a14)
def s14 (v : α) (k : T16 α → Tri) (t : T16 α) : Tri := t (fun a0 a1 a2 a3 a4 a5 a6 a7 a8 a9 a10 a11 a12 a13 _ a15 => k (fun s => s a0 a1 a2 a3 a4 a5 a6 a7 a8 a9 a10 a11 a12 a13 v a15))
def u14 (u : (α → Tri) → α → Tri) (k : T16 α → Tri) (t : T16 α) : Tri := t (fun a0 a1 a2 a3 a4 a5 a6 a7 a8 a9 a10 a11 a12 a13 a14 a15 => u (fun v => k (fun s => s a0 a1 a2 a3 a4 a5 a6 a7 a8 a9 a10 a11 a12 a13 v a15)) a14)
def g15 (k : α → Tri) (t : T16 α) : Tri := t (fun _ _ _ _ _ _ _ _ _ _ _ _ _ _ _ a15 => k a15)
def s15 (v : α) (k : T16 α → Tri) (t : T16 α) : Tri := t (fun a0 a1 a2 a3 a4 a5 a6 a7 a8 a9 a10 a11 a12 a13 a14 _ => k (fun s => s a0 a1 a2 a3 a4 a5 a6 a7 a8 a9 a10 a11 a12 a13 a14 v))
def u15 (u : (α → Tri) → α → Tri) (k : T16 α → Tri) (t : T16 α) : Tri := t (fun a0 a1 a2 a3 a4 a5 a6 a7 a8 a9 a10 a11 a12 a13 a14 a15 => u (fun v => k (fun s => s a0 a1 a2 a3 a4 a5 a6 a7 a8 a9 a10 a11 a12 a13 a14 v)) a15)
/-- Which reader. -/
def gSel {β : Type} (n : Nat) (no : β) (K : ((α → Tri) → T16 α → Tri) → β) : β := Nat.rec (motive := fun _ => β) (K g0) (fun m _ => Nat.rec (motive := fun _ => β) (K g1) (fun m _ => Nat.rec (motive := fun _ => β) (K g2) (fun m _ => Nat.rec (motive := fun _ => β) (K g3) (fun m _ => Nat.rec (motive := fun _ => β) (K g4) (fun m _ => Nat.rec (motive := fun _ => β) (K g5) (fun m _ => Nat.rec (motive := fun _ => β) (K g6) (fun m _ => Nat.rec (motive := fun _ => β) (K g7) (fun m _ => Nat.rec (motive := fun _ => β) (K g8) (fun m _ => Nat.rec (motive := fun _ => β) (K g9) (fun m _ => Nat.rec (motive := fun _ => β) (K g10) (fun m _ => Nat.rec (motive := fun _ => β) (K g11) (fun m _ => Nat.rec (motive := fun _ => β) (K g12) (fun m _ => Nat.rec (motive := fun _ => β) (K g13) (fun m _ => Nat.rec (motive := fun _ => β) (K g14) (fun m _ => Nat.rec (motive := fun _ => β) (K g15) (fun m _ => no) m) m) m) m) m) m) m) m) m) m) m) m) m) m) m) n
/-- Which writer. -/
def sSel {β : Type} (n : Nat) (no : β) (K : (α → (T16 α → Tri) → T16 α → Tri) → β) : β := Nat.rec (motive := fun _ => β) (K s0) (fun m _ => Nat.rec (motive := fun _ => β) (K s1) (fun m _ => Nat.rec (motive := fun _ => β) (K s2) (fun m _ => Nat.rec (motive := fun _ => β) (K s3) (fun m _ => Nat.rec (motive := fun _ => β) (K s4) (fun m _ => Nat.rec (motive := fun _ => β) (K s5) (fun m _ => Nat.rec (motive := fun _ => β) (K s6) (fun m _ => Nat.rec (motive := fun _ => β) (K s7) (fun m _ => Nat.rec (motive := fun _ => β) (K s8) (fun m _ => Nat.rec (motive := fun _ => β) (K s9) (fun m _ => Nat.rec (motive := fun _ => β) (K s10) (fun m _ => Nat.rec (motive := fun _ => β) (K s11) (fun m _ => Nat.rec (motive := fun _ => β) (K s12) (fun m _ => Nat.rec (motive := fun _ => β) (K s13) (fun m _ => Nat.rec (motive := fun _ => β) (K s14) (fun m _ => Nat.rec (motive := fun _ => β) (K s15) (fun m _ => no) m) m) m) m) m) m) m) m) m) m) m) m) m) m) m) n
/-- Which changer. -/
def uSel {β : Type} (n : Nat) (no : β) (K : (((α → Tri) → α → Tri) → (T16 α → Tri) → T16 α → Tri) → β) : β := Nat.rec (motive := fun _ => β) (K u0) (fun m _ => Nat.rec (motive := fun _ => β) (K u1) (fun m _ => Nat.rec (motive := fun _ => β) (K u2) (fun m _ => Nat.rec (motive := fun _ => β) (K u3) (fun m _ => Nat.rec (motive := fun _ => β) (K u4) (fun m _ => Nat.rec (motive := fun _ => β) (K u5) (fun m _ => Nat.rec (motive := fun _ => β) (K u6) (fun m _ => Nat.rec (motive := fun _ => β) (K u7) (fun m _ => Nat.rec (motive := fun _ => β) (K u8) (fun m _ => Nat.rec (motive := fun _ => β) (K u9) (fun m _ => Nat.rec (motive := fun _ => β) (K u10) (fun m _ => Nat.rec (motive := fun _ => β) (K u11) (fun m _ => Nat.rec (motive := fun _ => β) (K u12) (fun m _ => Nat.rec (motive := fun _ => β) (K u13) (fun m _ => Nat.rec (motive := fun _ => β) (K u14) (fun m _ => Nat.rec (motive := fun _ => β) (K u15) (fun m _ => no) m) m) m) m) m) m) m) m) m) m) m) m) m) m) m) n
/-- A row, changed in one place. -/
def upd (f : Nat → α) (i : Nat) (v : α) : Nat → α := fun j => if j = i then v else f j
theorem gSel_eq {β : Type} (n : Nat) (no : β) (K : ((α → Tri) → T16 α → Tri) → β) : gSel n no K = no ∨ ∃ g, gSel n no K = K g ∧ ∀ f k, g k (mk16 f) = k (f n) := by
  rcases n with _ | (_ | (_ | (_ | (_ | (_ | (_ | (_ | (_ | (_ | (_ | (_ | (_ | (_ | (_ | (_ | _)))))))))))))))
  · exact .inr ⟨_, rfl, fun _ _ => rfl⟩
  · exact .inr ⟨_, rfl, fun _ _ => rfl⟩
  · exact .inr ⟨_, rfl, fun _ _ => rfl⟩
  · exact .inr ⟨_, rfl, fun _ _ => rfl⟩
  · exact .inr ⟨_, rfl, fun _ _ => rfl⟩
  · exact .inr ⟨_, rfl, fun _ _ => rfl⟩
  · exact .inr ⟨_, rfl, fun _ _ => rfl⟩
  · exact .inr ⟨_, rfl, fun _ _ => rfl⟩
  · exact .inr ⟨_, rfl, fun _ _ => rfl⟩
  · exact .inr ⟨_, rfl, fun _ _ => rfl⟩
  · exact .inr ⟨_, rfl, fun _ _ => rfl⟩
  · exact .inr ⟨_, rfl, fun _ _ => rfl⟩
  · exact .inr ⟨_, rfl, fun _ _ => rfl⟩
  · exact .inr ⟨_, rfl, fun _ _ => rfl⟩
  · exact .inr ⟨_, rfl, fun _ _ => rfl⟩
  · exact .inr ⟨_, rfl, fun _ _ => rfl⟩
  · exact .inl rfl
theorem sSel_eq {β : Type} (n : Nat) (no : β) (K : (α → (T16 α → Tri) → T16 α → Tri) → β) : sSel n no K = no ∨ ∃ g, sSel n no K = K g ∧ ∀ f v k, g v k (mk16 f) = k (mk16 (upd f n v)) := by
  rcases n with _ | (_ | (_ | (_ | (_ | (_ | (_ | (_ | (_ | (_ | (_ | (_ | (_ | (_ | (_ | (_ | _)))))))))))))))
  · exact .inr ⟨_, rfl, fun _ _ _ => rfl⟩
  · exact .inr ⟨_, rfl, fun _ _ _ => rfl⟩
  · exact .inr ⟨_, rfl, fun _ _ _ => rfl⟩
  · exact .inr ⟨_, rfl, fun _ _ _ => rfl⟩
  · exact .inr ⟨_, rfl, fun _ _ _ => rfl⟩
  · exact .inr ⟨_, rfl, fun _ _ _ => rfl⟩
  · exact .inr ⟨_, rfl, fun _ _ _ => rfl⟩
  · exact .inr ⟨_, rfl, fun _ _ _ => rfl⟩
  · exact .inr ⟨_, rfl, fun _ _ _ => rfl⟩
  · exact .inr ⟨_, rfl, fun _ _ _ => rfl⟩
  · exact .inr ⟨_, rfl, fun _ _ _ => rfl⟩
  · exact .inr ⟨_, rfl, fun _ _ _ => rfl⟩
  · exact .inr ⟨_, rfl, fun _ _ _ => rfl⟩
  · exact .inr ⟨_, rfl, fun _ _ _ => rfl⟩
  · exact .inr ⟨_, rfl, fun _ _ _ => rfl⟩
  · exact .inr ⟨_, rfl, fun _ _ _ => rfl⟩
  · exact .inl rfl
theorem uSel_eq {β : Type} (n : Nat) (no : β) (K : (((α → Tri) → α → Tri) → (T16 α → Tri) → T16 α → Tri) → β) : uSel n no K = no ∨ ∃ g, uSel n no K = K g ∧ ∀ f u k, g u k (mk16 f) = u (fun v => k (mk16 (upd f n v))) (f n) := by
  rcases n with _ | (_ | (_ | (_ | (_ | (_ | (_ | (_ | (_ | (_ | (_ | (_ | (_ | (_ | (_ | (_ | _)))))))))))))))
  · exact .inr ⟨_, rfl, fun _ _ _ => rfl⟩
  · exact .inr ⟨_, rfl, fun _ _ _ => rfl⟩
  · exact .inr ⟨_, rfl, fun _ _ _ => rfl⟩
  · exact .inr ⟨_, rfl, fun _ _ _ => rfl⟩
  · exact .inr ⟨_, rfl, fun _ _ _ => rfl⟩
  · exact .inr ⟨_, rfl, fun _ _ _ => rfl⟩
  · exact .inr ⟨_, rfl, fun _ _ _ => rfl⟩
  · exact .inr ⟨_, rfl, fun _ _ _ => rfl⟩
  · exact .inr ⟨_, rfl, fun _ _ _ => rfl⟩
  · exact .inr ⟨_, rfl, fun _ _ _ => rfl⟩
  · exact .inr ⟨_, rfl, fun _ _ _ => rfl⟩
  · exact .inr ⟨_, rfl, fun _ _ _ => rfl⟩
  · exact .inr ⟨_, rfl, fun _ _ _ => rfl⟩
  · exact .inr ⟨_, rfl, fun _ _ _ => rfl⟩
  · exact .inr ⟨_, rfl, fun _ _ _ => rfl⟩
  · exact .inr ⟨_, rfl, fun _ _ _ => rfl⟩
  · exact .inl rfl

abbrev F := T16 (T16 AV)
/-- A frame's content. -/
def mkF (f : Nat → AV) : F := mk16 fun i => mk16 fun j => f (16 * i + j)
/-- The reader of a slot; the writer. -/
def fGet {β : Type} (p : Pos) (no : β) (K : ((AV → Tri) → F → Tri) → β) : β :=
  gSel (p.num / 16) no fun r => gSel (p.num % 16) no fun c => K fun k t => r (fun u => c k u) t
def fSet {β : Type} (p : Pos) (no : β) (K : (AV → (F → Tri) → F → Tri) → β) : β :=
  uSel (p.num / 16) no fun r => sSel (p.num % 16) no fun c => K fun v k t => r (fun k u => c v k u) k t

theorem mk16_congr {f g : Nat → α} (h : ∀ j, j < 16 → f j = g j) : mk16 f = mk16 g := by
  unfold mk16
  funext s
  rw [h 0 (by omega), h 1 (by omega), h 2 (by omega), h 3 (by omega), h 4 (by omega), h 5 (by omega), h 6 (by omega), h 7 (by omega), h 8 (by omega), h 9 (by omega), h 10 (by omega), h 11 (by omega), h 12 (by omega), h 13 (by omega), h 14 (by omega), h 15 (by omega)]

theorem mkF_upd (f : Nat → AV) (n : Nat) (v : AV) (h : n / 16 < 16) : mk16 (upd (fun i => mk16 fun j => f (16 * i + j)) (n / 16) (mk16 (upd (fun j => f (16 * (n / 16) + j)) (n % 16) v))) = mkF (upd f n v) := by
  have hn := Nat.div_add_mod n 16
  unfold mkF
  refine mk16_congr fun i _ => ?_
  unfold upd
  by_cases hi : i = n / 16
  · rw [if_pos hi]
    subst hi
    refine mk16_congr fun j hj => ?_
    by_cases hj2 : j = n % 16
    · rw [if_pos hj2, if_pos (by omega)]
    · rw [if_neg hj2, if_neg (by omega)]
  · rw [if_neg hi]
    refine mk16_congr fun j hj => ?_
    rw [if_neg (by omega)]


theorem gSel_lt {β : Type} {n : Nat} {no : β} {K : ((α → Tri) → T16 α → Tri) → β} (h : 16 ≤ n) : gSel n no K = no := by
  obtain ⟨m, rfl⟩ : ∃ m, n = m + 16 := ⟨n - 16, by omega⟩
  rfl
theorem uSel_lt {β : Type} {n : Nat} {no : β} {K : (((α → Tri) → α → Tri) → (T16 α → Tri) → T16 α → Tri) → β} (h : 16 ≤ n) : uSel n no K = no := by
  obtain ⟨m, rfl⟩ : ∃ m, n = m + 16 := ⟨n - 16, by omega⟩
  rfl

theorem fGet_eq {β : Type} (p : Pos) (no : β) (K : ((AV → Tri) → F → Tri) → β) : fGet p no K = no ∨ ∃ g, fGet p no K = K g ∧ ∀ f k, g k (mkF f) = k (f p.num) := by
  unfold fGet
  rcases gSel_eq (p.num / 16) no (fun r => gSel (p.num % 16) no fun c => K fun k t => r (fun u => c k u) t) with h | ⟨r, h, hr⟩
  · exact .inl h
  rw [h]
  rcases gSel_eq (p.num % 16) no (fun c => K fun k t => r (fun u => c k u) t) with h | ⟨c, h, hc⟩
  · exact .inl h
  rw [h]
  refine .inr ⟨_, rfl, fun f k => ?_⟩
  show r (fun u => c k u) (mkF f) = _
  unfold mkF
  rw [hr, hc, Nat.div_add_mod]

theorem fSet_eq {β : Type} (p : Pos) (no : β) (K : (AV → (F → Tri) → F → Tri) → β) : fSet p no K = no ∨ ∃ g, fSet p no K = K g ∧ ∀ f v k, g v k (mkF f) = k (mkF (upd f p.num v)) := by
  unfold fSet
  by_cases hlt : p.num / 16 < 16
  · rcases uSel_eq (p.num / 16) no (fun r => sSel (p.num % 16) no fun c => K fun v k t => r (fun k u => c v k u) k t) with h | ⟨r, h, hr⟩
    · exact .inl h
    rw [h]
    rcases sSel_eq (p.num % 16) no (fun c => K fun v k t => r (fun k u => c v k u) k t) with h | ⟨c, h, hc⟩
    · exact .inl h
    rw [h]
    refine .inr ⟨_, rfl, fun f v k => ?_⟩
    show r (fun k u => c v k u) k (mkF f) = _
    unfold mkF
    rw [hr, hc]
    show k (mk16 (upd (fun i => mk16 fun j => f (16 * i + j)) (p.num / 16) (mk16 (upd (fun j => f (16 * (p.num / 16) + j)) (p.num % 16) v)))) = _
    rw [mkF_upd f p.num v hlt]
    rfl
  · exact .inl (uSel_lt (by omega))

/-- The slots of a frame: what lies there (nothing, where '.nil' does) is what the other frame has. -/
def RF (t : F) (fr : Tr AV) : Prop := ∃ f : Nat → AV, t = mkF f ∧ ∀ p : Pos, f p.num ≠ .nil → fr.get p = some (f p.num)
def empty : F := mkF fun _ => .nil
theorem RF.empty : RF empty .leaf := ⟨_, rfl, fun _ h => absurd rfl h⟩
theorem RF.set {t : F} {fr : Tr AV} {p : Pos} {v : AV} {f : Nat → AV} (ht : t = mkF f) (h : ∀ p : Pos, f p.num ≠ .nil → fr.get p = some (f p.num)) : RF (mkF (upd f p.num v)) (fr.set p v) := by
  refine ⟨_, rfl, fun q hq => ?_⟩
  rw [Tr.get_set]
  unfold upd at hq ⊢
  by_cases e : q.num = p.num
  · rw [if_pos e, if_pos (Pos.num_inj e)]
  · rw [if_neg e] at hq ⊢
    rw [if_neg (fun h => e (by rw [h]))]
    exact h q hq
end
end Go.Dx.K
