/-
  The twin for the kernel: frames. Printed by kfr.py.
-/
import Derived.Test.YtnlbchnlbpaflaaGreatDoorDxKa
set_option linter.unusedSimpArgs false
set_option linter.unusedVariables false
set_option linter.unusedSectionVars false
namespace Go.Dx.K
open Go.Dx

noncomputable section
variable {α : Type}
abbrev T24 (α : Type) := (α → α → α → α → α → α → α → α → α → α → α → α → α → α → α → α → α → α → α → α → α → α → α → α → Tri) → Tri
def mk24 (f : Nat → α) : T24 α := fun s => s (f 0) (f 1) (f 2) (f 3) (f 4) (f 5) (f 6) (f 7) (f 8) (f 9) (f 10) (f 11) (f 12) (f 13) (f 14) (f 15) (f 16) (f 17) (f 18) (f 19) (f 20) (f 21) (f 22) (f 23)
def g0 (k : α → Tri) (t : T24 α) : Tri := t (fun a0 _ _ _ _ _ _ _ _ _ _ _ _ _ _ _ _ _ _ _ _ _ _ _ => k a0)
def s0 (v : α) (k : T24 α → Tri) (t : T24 α) : Tri := t (fun _ a1 a2 a3 a4 a5 a6 a7 a8 a9 a10 a11 a12 a13 a14 a15 a16 a17 a18 a19 a20 a21 a22 a23 => k (fun s => s v a1 a2 a3 a4 a5 a6 a7 a8 a9 a10 a11 a12 a13 a14 a15 a16 a17 a18 a19 a20 a21 a22 a23))
def u0 (u : (α → Tri) → α → Tri) (k : T24 α → Tri) (t : T24 α) : Tri := t (fun a0 a1 a2 a3 a4 a5 a6 a7 a8 a9 a10 a11 a12 a13 a14 a15 a16 a17 a18 a19 a20 a21 a22 a23 => u (fun v => k (fun s => s v a1 a2 a3 a4 a5 a6 a7 a8 a9 a10 a11 a12 a13 a14 a15 a16 a17 a18 a19 a20 a21 a22 a23)) a0)
def g1 (k : α → Tri) (t : T24 α) : Tri := t (fun _ a1 _ _ _ _ _ _ _ _ _ _ _ _ _ _ _ _ _ _ _ _ _ _ => k a1)
def s1 (v : α) (k : T24 α → Tri) (t : T24 α) : Tri := t (fun a0 _ a2 a3 a4 a5 a6 a7 a8 a9 a10 a11 a12 a13 a14 a15 a16 a17 a18 a19 a20 a21 a22 a23 => k (fun s => s a0 v a2 a3 a4 a5 a6 a7 a8 a9 a10 a11 a12 a13 a14 a15 a16 a17 a18 a19 a20 a21 a22 a23))
def u1 (u : (α → Tri) → α → Tri) (k : T24 α → Tri) (t : T24 α) : Tri := t (fun a0 a1 a2 a3 a4 a5 a6 a7 a8 a9 a10 a11 a12 a13 a14 a15 a16 a17 a18 a19 a20 a21 a22 a23 => u (fun v => k (fun s => s a0 v a2 a3 a4 a5 a6 a7 a8 a9 a10 a11 a12 a13 a14 a15 a16 a17 a18 a19 a20 a21 a22 a23)) a1)
def g2 (k : α → Tri) (t : T24 α) : Tri := t (fun _ _ a2 _ _ _ _ _ _ _ _ _ _ _ _ _ _ _ _ _ _ _ _ _ => k a2)
def s2 (v : α) (k : T24 α → Tri) (t : T24 α) : Tri := t (fun a0 a1 _ a3 a4 a5 a6 a7 a8 a9 a10 a11 a12 a13 a14 a15 a16 a17 a18 a19 a20 a21 a22 a23 => k (fun s => s a0 a1 v a3 a4 a5 a6 a7 a8 a9 a10 a11 a12 a13 a14 a15 a16 a17 a18 a19 a20 a21 a22 a23))
def u2 (u : (α → Tri) → α → Tri) (k : T24 α → Tri) (t : T24 α) : Tri := t (fun a0 a1 a2 a3 a4 a5 a6 a7 a8 a9 a10 a11 a12 a13 a14 a15 a16 a17 a18 a19 a20 a21 a22 a23 => u (fun v => k (fun s => s a0 a1 v a3 a4 a5 a6 a7 a8 a9 a10 a11 a12 a13 a14 a15 a16 a17 a18 a19 a20 a21 a22 a23)) a2)
def g3 (k : α → Tri) (t : T24 α) : Tri := t (fun _ _ _ a3 _ _ _ _ _ _ _ _ _ _ _ _ _ _ _ _ _ _ _ _ => k a3)
def s3 (v : α) (k : T24 α → Tri) (t : T24 α) : Tri := t (fun a0 a1 a2 _ a4 a5 a6 a7 a8 a9 a10 a11 a12 a13 a14 a15 a16 a17 a18 a19 a20 a21 a22 a23 => k (fun s => s a0 a1 a2 v a4 a5 a6 a7 a8 a9 a10 a11 a12 a13 a14 a15 a16 a17 a18 a19 a20 a21 a22 a23))
def u3 (u : (α → Tri) → α → Tri) (k : T24 α → Tri) (t : T24 α) : Tri := t (fun a0 a1 a2 a3 a4 a5 a6 a7 a8 a9 a10 a11 a12 a13 a14 a15 a16 a17 a18 a19 a20 a21 a22 a23 => u (fun v => k (fun s => s a0 a1 a2 v a4 a5 a6 a7 a8 a9 a10 a11 a12 a13 a14 a15 a16 a17 a18 a19 a20 a21 a22 a23)) a3)
def g4 (k : α → Tri) (t : T24 α) : Tri := t (fun _ _ _ _ a4 _ _ _ _ _ _ _ _ _ _ _ _ _ _ _ _ _ _ _ => k a4)
def s4 (v : α) (k : T24 α → Tri) (t : T24 α) : Tri := t (fun a0 a1 a2 a3 _ a5 a6 a7 a8 a9 a10 a11 a12 a13 a14 a15 a16 a17 a18 a19 a20 a21 a22 a23 => k (fun s => s a0 a1 a2 a3 v a5 a6 a7 a8 a9 a10 a11 a12 a13 a14 a15 a16 a17 a18 a19 a20 a21 a22 a23))
def u4 (u : (α → Tri) → α → Tri) (k : T24 α → Tri) (t : T24 α) : Tri := t (fun a0 a1 a2 a3 a4 a5 a6 a7 a8 a9 a10 a11 a12 a13 a14 a15 a16 a17 a18 a19 a20 a21 a22 a23 => u (fun v => k (fun s => s a0 a1 a2 a3 v a5 a6 a7 a8 a9 a10 a11 a12 a13 a14 a15 a16 a17 a18 a19 a20 a21 a22 a23)) a4)
def g5 (k : α → Tri) (t : T24 α) : Tri := t (fun _ _ _ _ _ a5 _ _ _ _ _ _ _ _ _ _ _ _ _ _ _ _ _ _ => k a5)
def s5 (v : α) (k : T24 α → Tri) (t : T24 α) : Tri := t (fun a0 a1 a2 a3 a4 _ a6 a7 a8 a9 a10 a11 a12 a13 a14 a15 a16 a17 a18 a19 a20 a21 a22 a23 => k (fun s => s a0 a1 a2 a3 a4 v a6 a7 a8 a9 a10 a11 a12 a13 a14 a15 a16 a17 a18 a19 a20 a21 a22 a23))
def u5 (u : (α → Tri) → α → Tri) (k : T24 α → Tri) (t : T24 α) : Tri := t (fun a0 a1 a2 a3 a4 a5 a6 a7 a8 a9 a10 a11 a12 a13 a14 a15 a16 a17 a18 a19 a20 a21 a22 a23 => u (fun v => k (fun s => s a0 a1 a2 a3 a4 v a6 a7 a8 a9 a10 a11 a12 a13 a14 a15 a16 a17 a18 a19 a20 a21 a22 a23)) a5)
def g6 (k : α → Tri) (t : T24 α) : Tri := t (fun _ _ _ _ _ _ a6 _ _ _ _ _ _ _ _ _ _ _ _ _ _ _ _ _ => k a6)
def s6 (v : α) (k : T24 α → Tri) (t : T24 α) : Tri := t (fun a0 a1 a2 a3 a4 a5 _ a7 a8 a9 a10 a11 a12 a13 a14 a15 a16 a17 a18 a19 a20 a21 a22 a23 => k (fun s => s a0 a1 a2 a3 a4 a5 v a7 a8 a9 a10 a11 a12 a13 a14 a15 a16 a17 a18 a19 a20 a21 a22 a23))
def u6 (u : (α → Tri) → α → Tri) (k : T24 α → Tri) (t : T24 α) : Tri := t (fun a0 a1 a2 a3 a4 a5 a6 a7 a8 a9 a10 a11 a12 a13 a14 a15 a16 a17 a18 a19 a20 a21 a22 a23 => u (fun v => k (fun s => s a0 a1 a2 a3 a4 a5 v a7 a8 a9 a10 a11 a12 a13 a14 a15 a16 a17 a18 a19 a20 a21 a22 a23)) a6)
def g7 (k : α → Tri) (t : T24 α) : Tri := t (fun _ _ _ _ _ _ _ a7 _ _ _ _ _ _ _ _ _ _ _ _ _ _ _ _ => k a7)
def s7 (v : α) (k : T24 α → Tri) (t : T24 α) : Tri := t (fun a0 a1 a2 a3 a4 a5 a6 _ a8 a9 a10 a11 a12 a13 a14 a15 a16 a17 a18 a19 a20 a21 a22 a23 => k (fun s => s a0 a1 a2 a3 a4 a5 a6 v a8 a9 a10 a11 a12 a13 a14 a15 a16 a17 a18 a19 a20 a21 a22 a23))
def u7 (u : (α → Tri) → α → Tri) (k : T24 α → Tri) (t : T24 α) : Tri := t (fun a0 a1 a2 a3 a4 a5 a6 a7 a8 a9 a10 a11 a12 a13 a14 a15 a16 a17 a18 a19 a20 a21 a22 a23 => u (fun v => k (fun s => s a0 a1 a2 a3 a4 a5 a6 v a8 a9 a10 a11 a12 a13 a14 a15 a16 a17 a18 a19 a20 a21 a22 a23)) a7)
def g8 (k : α → Tri) (t : T24 α) : Tri := t (fun _ _ _ _ _ _ _ _ a8 _ _ _ _ _ _ _ _ _ _ _ _ _ _ _ => k a8)
def s8 (v : α) (k : T24 α → Tri) (t : T24 α) : Tri := t (fun a0 a1 a2 a3 a4 a5 a6 a7 _ a9 a10 a11 a12 a13 a14 a15 a16 a17 a18 a19 a20 a21 a22 a23 => k (fun s => s a0 a1 a2 a3 a4 a5 a6 a7 v a9 a10 a11 a12 a13 a14 a15 a16 a17 a18 a19 a20 a21 a22 a23))
def u8 (u : (α → Tri) → α → Tri) (k : T24 α → Tri) (t : T24 α) : Tri := t (fun a0 a1 a2 a3 a4 a5 a6 a7 a8 a9 a10 a11 a12 a13 a14 a15 a16 a17 a18 a19 a20 a21 a22 a23 => u (fun v => k (fun s => s a0 a1 a2 a3 a4 a5 a6 a7 v a9 a10 a11 a12 a13 a14 a15 a16 a17 a18 a19 a20 a21 a22 a23)) a8)
def g9 (k : α → Tri) (t : T24 α) : Tri := t (fun _ _ _ _ _ _ _ _ _ a9 _ _ _ _ _ _ _ _ _ _ _ _ _ _ => k a9)
def s9 (v : α) (k : T24 α → Tri) (t : T24 α) : Tri := t (fun a0 a1 a2 a3 a4 a5 a6 a7 a8 _ a10 a11 a12 a13 a14 a15 a16 a17 a18 a19 a20 a21 a22 a23 => k (fun s => s a0 a1 a2 a3 a4 a5 a6 a7 a8 v a10 a11 a12 a13 a14 a15 a16 a17 a18 a19 a20 a21 a22 a23))
def u9 (u : (α → Tri) → α → Tri) (k : T24 α → Tri) (t : T24 α) : Tri := t (fun a0 a1 a2 a3 a4 a5 a6 a7 a8 a9 a10 a11 a12 a13 a14 a15 a16 a17 a18 a19 a20 a21 a22 a23 => u (fun v => k (fun s => s a0 a1 a2 a3 a4 a5 a6 a7 a8 v a10 a11 a12 a13 a14 a15 a16 a17 a18 a19 a20 a21 a22 a23)) a9)
def g10 (k : α → Tri) (t : T24 α) : Tri := t (fun _ _ _ _ _ _ _ _ _ _ a10 _ _ _ _ _ _ _ _ _ _ _ _ _ => k a10)
def s10 (v : α) (k : T24 α → Tri) (t : T24 α) : Tri := t (fun a0 a1 a2 a3 a4 a5 a6 a7 a8 a9 _ a11 a12 a13 a14 a15 a16 a17 a18 a19 a20 a21 a22 a23 => k (fun s => s a0 a1 a2 a3 a4 a5 a6 a7 a8 a9 v a11 a12 a13 a14 a15 a16 a17 a18 a19 a20 a21 a22 a23))
def u10 (u : (α → Tri) → α → Tri) (k : T24 α → Tri) (t : T24 α) : Tri := t (fun a0 a1 a2 a3 a4 a5 a6 a7 a8 a9 a10 a11 a12 a13 a14 a15 a16 a17 a18 a19 a20 a21 a22 a23 => u (fun v => k (fun s => s a0 a1 a2 a3 a4 a5 a6 a7 a8 a9 v a11 a12 a13 a14 a15 a16 a17 a18 a19 a20 a21 a22 a23)) a10)
def g11 (k : α → Tri) (t : T24 α) : Tri := t (fun _ _ _ _ _ _ _ _ _ _ _ a11 _ _ _ _ _ _ _ _ _ _ _ _ => k a11)
def s11 (v : α) (k : T24 α → Tri) (t : T24 α) : Tri := t (fun a0 a1 a2 a3 a4 a5 a6 a7 a8 a9 a10 _ a12 a13 a14 a15 a16 a17 a18 a19 a20 a21 a22 a23 => k (fun s => s a0 a1 a2 a3 a4 a5 a6 a7 a8 a9 a10 v a12 a13 a14 a15 a16 a17 a18 a19 a20 a21 a22 a23))
def u11 (u : (α → Tri) → α → Tri) (k : T24 α → Tri) (t : T24 α) : Tri := t (fun a0 a1 a2 a3 a4 a5 a6 a7 a8 a9 a10 a11 a12 a13 a14 a15 a16 a17 a18 a19 a20 a21 a22 a23 => u (fun v => k (fun s => s a0 a1 a2 a3 a4 a5 a6 a7 a8 a9 a10 v a12 a13 a14 a15 a16 a17 a18 a19 a20 a21 a22 a23)) a11)
def g12 (k : α → Tri) (t : T24 α) : Tri := t (fun _ _ _ _ _ _ _ _ _ _ _ _ a12 _ _ _ _ _ _ _ _ _ _ _ => k a12)
def s12 (v : α) (k : T24 α → Tri) (t : T24 α) : Tri := t (fun a0 a1 a2 a3 a4 a5 a6 a7 a8 a9 a10 a11 _ a13 a14 a15 a16 a17 a18 a19 a20 a21 a22 a23 => k (fun s => s a0 a1 a2 a3 a4 a5 a6 a7 a8 a9 a10 a11 v a13 a14 a15 a16 a17 a18 a19 a20 a21 a22 a23))
def u12 (u : (α → Tri) → α → Tri) (k : T24 α → Tri) (t : T24 α) : Tri := t (fun a0 a1 a2 a3 a4 a5 a6 a7 a8 a9 a10 a11 a12 a13 a14 a15 a16 a17 a18 a19 a20 a21 a22 a23 => u (fun v => k (fun s => s a0 a1 a2 a3 a4 a5 a6 a7 a8 a9 a10 a11 v a13 a14 a15 a16 a17 a18 a19 a20 a21 a22 a23)) a12)
def g13 (k : α → Tri) (t : T24 α) : Tri := t (fun _ _ _ _ _ _ _ _ _ _ _ _ _ a13 _ _ _ _ _ _ _ _ _ _ => k a13)
def s13 (v : α) (k : T24 α → Tri) (t : T24 α) : Tri := t (fun a0 a1 a2 a3 a4 a5 a6 a7 a8 a9 a10 a11 a12 _ a14 a15 a16 a17 a18 a19 a20 a21 a22 a23 => k (fun s => s a0 a1 a2 a3 a4 a5 a6 a7 a8 a9 a10 a11 a12 v a14 a15 a16 a17 a18 a19 a20 a21 a22 a23))
def u13 (u : (α → Tri) → α → Tri) (k : T24 α → Tri) (t : T24 α) : Tri := t (fun a0 a1 a2 a3 a4 a5 a6 a7 a8 a9 a10 a11 a12 a13 a14 a15 a16 a17 a18 a19 a20 a21 a22 a23 => u (fun v => k (fun s => s a0 a1 a2 a3 a4 a5 a6 a7 a8 a9 a10 a11 a12 v a14 a15 a16 a17 a18 a19 a20 a21 a22 a23)) a13)
def g14 (k : α → Tri) (t : T24 α) : Tri := t (fun _ _ _ _ _ _ _ _ _ _ _ _ _ _ a14 _ _ _ _ _ _ _ _ _ => k a14)
def s14 (v : α) (k : T24 α → Tri) (t : T24 α) : Tri := t (fun a0 a1 a2 a3 a4 a5 a6 a7 a8 a9 a10 a11 a12 a13 _ a15 a16 a17 a18 a19 a20 a21 a22 a23 => k (fun s => s a0 a1 a2 a3 a4 a5 a6 a7 a8 a9 a10 a11 a12 a13 v a15 a16 a17 a18 a19 a20 a21 a22 a23))
def u14 (u : (α → Tri) → α → Tri) (k : T24 α → Tri) (t : T24 α) : Tri := t (fun a0 a1 a2 a3 a4 a5 a6 a7 a8 a9 a10 a11 a12 a13 a14 a15 a16 a17 a18 a19 a20 a21 a22 a23 => u (fun v => k (fun s => s a0 a1 a2 a3 a4 a5 a6 a7 a8 a9 a10 a11 a12 a13 v a15 a16 a17 a18 a19 a20 a21 a22 a23)) a14)
def g15 (k : α → Tri) (t : T24 α) : Tri := t (fun _ _ _ _ _ _ _ _ _ _ _ _ _ _ _ a15 _ _ _ _ _ _ _ _ => k a15)
def s15 (v : α) (k : T24 α → Tri) (t : T24 α) : Tri := t (fun a0 a1 a2 a3 a4 a5 a6 a7 a8 a9 a10 a11 a12 a13 a14 _ a16 a17 a18 a19 a20 a21 a22 a23 => k (fun s => s a0 a1 a2 a3 a4 a5 a6 a7 a8 a9 a10 a11 a12 a13 a14 v a16 a17 a18 a19 a20 a21 a22 a23))
def u15 (u : (α → Tri) → α → Tri) (k : T24 α → Tri) (t : T24 α) : Tri := t (fun a0 a1 a2 a3 a4 a5 a6 a7 a8 a9 a10 a11 a12 a13 a14 a15 a16 a17 a18 a19 a20 a21 a22 a23 => u (fun v => k (fun s => s a0 a1 a2 a3 a4 a5 a6 a7 a8 a9 a10 a11 a12 a13 a14 v a16 a17 a18 a19 a20 a21 a22 a23)) a15)
def g16 (k : α → Tri) (t : T24 α) : Tri := t (fun _ _ _ _ _ _ _ _ _ _ _ _ _ _ _ _ a16 _ _ _ _ _ _ _ => k a16)
def s16 (v : α) (k : T24 α → Tri) (t : T24 α) : Tri := t (fun a0 a1 a2 a3 a4 a5 a6 a7 a8 a9 a10 a11 a12 a13 a14 a15 _ a17 a18 a19 a20 a21 a22 a23 => k (fun s => s a0 a1 a2 a3 a4 a5 a6 a7 a8 a9 a10 a11 a12 a13 a14 a15 v a17 a18 a19 a20 a21 a22 a23))
def u16 (u : (α → Tri) → α → Tri) (k : T24 α → Tri) (t : T24 α) : Tri := t (fun a0 a1 a2 a3 a4 a5 a6 a7 a8 a9 a10 a11 a12 a13 a14 a15 a16 a17 a18 a19 a20 a21 a22 a23 => u (fun v => k (fun s => s a0 a1 a2 a3 a4 a5 a6 a7 a8 a9 a10 a11 a12 a13 a14 a15 v a17 a18 a19 a20 a21 a22 a23)) a16)
def g17 (k : α → Tri) (t : T24 α) : Tri := t (fun _ _ _ _ _ _ _ _ _ _ _ _ _ _ _ _ _ a17 _ _ _ _ _ _ => k a17)
def s17 (v : α) (k : T24 α → Tri) (t : T24 α) : Tri := t (fun a0 a1 a2 a3 a4 a5 a6 a7 a8 a9 a10 a11 a12 a13 a14 a15 a16 _ a18 a19 a20 a21 a22 a23 => k (fun s => s a0 a1 a2 a3 a4 a5 a6 a7 a8 a9 a10 a11 a12 a13 a14 a15 a16 v a18 a19 a20 a21 a22 a23))
def u17 (u : (α → Tri) → α → Tri) (k : T24 α → Tri) (t : T24 α) : Tri := t (fun a0 a1 a2 a3 a4 a5 a6 a7 a8 a9 a10 a11 a12 a13 a14 a15 a16 a17 a18 a19 a20 a21 a22 a23 => u (fun v => k (fun s => s a0 a1 a2 a3 a4 a5 a6 a7 a8 a9 a10 a11 a12 a13 a14 a15 a16 v a18 a19 a20 a21 a22 a23)) a17)
def g18 (k : α → Tri) (t : T24 α) : Tri := t (fun _ _ _ _ _ _ _ _ _ _ _ _ _ _ _ _ _ _ a18 _ _ _ _ _ => k a18)
def s18 (v : α) (k : T24 α → Tri) (t : T24 α) : Tri := t (fun a0 a1 a2 a3 a4 a5 a6 a7 a8 a9 a10 a11 a12 a13 a14 a15 a16 a17 _ a19 a20 a21 a22 a23 => k (fun s => s a0 a1 a2 a3 a4 a5 a6 a7 a8 a9 a10 a11 a12 a13 a14 a15 a16 a17 v a19 a20 a21 a22 a23))
def u18 (u : (α → Tri) → α → Tri) (k : T24 α → Tri) (t : T24 α) : Tri := t (fun a0 a1 a2 a3 a4 a5 a6 a7 a8 a9 a10 a11 a12 a13 a14 a15 a16 a17 a18 a19 a20 a21 a22 a23 => u (fun v => k (fun s => s a0 a1 a2 a3 a4 a5 a6 a7 a8 a9 a10 a11 a12 a13 a14 a15 a16 a17 v a19 a20 a21 a22 a23)) a18)
def g19 (k : α → Tri) (t : T24 α) : Tri := t (fun _ _ _ _ _ _ _ _ _ _ _ _ _ _ _ _ _ _ _ a19 _ _ _ _ => k a19)
def s19 (v : α) (k : T24 α → Tri) (t : T24 α) : Tri := t (fun a0 a1 a2 a3 a4 a5 a6 a7 a8 a9 a10 a11 a12 a13 a14 a15 a16 a17 a18 _ a20 a21 a22 a23 => k (fun s => s a0 a1 a2 a3 a4 a5 a6 a7 a8 a9 a10 a11 a12 a13 a14 a15 a16 a17 a18 v a20 a21 a22 a23))
def u19 (u : (α → Tri) → α → Tri) (k : T24 α → Tri) (t : T24 α) : Tri := t (fun a0 a1 a2 a3 a4 a5 a6 a7 a8 a9 a10 a11 a12 a13 a14 a15 a16 a17 a18 a19 a20 a21 a22 a23 => u (fun v => k (fun s => s a0 a1 a2 a3 a4 a5 a6 a7 a8 a9 a10 a11 a12 a13 a14 a15 a16 a17 a18 v a20 a21 a22 a23)) a19)
def g20 (k : α → Tri) (t : T24 α) : Tri := t (fun _ _ _ _ _ _ _ _ _ _ _ _ _ _ _ _ _ _ _ _ a20 _ _ _ => k a20)
def s20 (v : α) (k : T24 α → Tri) (t : T24 α) : Tri := t (fun a0 a1 a2 a3 a4 a5 a6 a7 a8 a9 a10 a11 a12 a13 a14 a15 a16 a17 a18 a19 _ a21 a22 a23 => k (fun s => s a0 a1 a2 a3 a4 a5 a6 a7 a8 a9 a10 a11 a12 a13 a14 a15 a16 a17 a18 a19 v a21 a22 a23))
def u20 (u : (α → Tri) → α → Tri) (k : T24 α → Tri) (t : T24 α) : Tri := t (fun a0 a1 a2 a3 a4 a5 a6 a7 a8 a9 a10 a11 a12 a13 a14 a15 a16 a17 a18 a19 a20 a21 a22 a23 => u (fun v => k (fun s => s a0 a1 a2 a3 a4 a5 a6 a7 a8 a9 a10 a11 a12 a13 a14 a15 a16 a17 a18 a19 v a21 a22 a23)) a20)
def g21 (k : α → Tri) (t : T24 α) : Tri := t (fun _ _ _ _ _ _ _ _ _ _ _ _ _ _ _ _ _ _ _ _ _ a21 _ _ => k a21)
def s21 (v : α) (k : T24 α → Tri) (t : T24 α) : Tri := t (fun a0 a1 a2 a3 a4 a5 a6 a7 a8 a9 a10 a11 a12 a13 a14 a15 a16 a17 a18 a19 a20 _ a22 a23 => k (fun s => s a0 a1 a2 a3 a4 a5 a6 a7 a8 a9 a10 a11 a12 a13 a14 a15 a16 a17 a18 a19 a20 v a22 a23))
def u21 (u : (α → Tri) → α → Tri) (k : T24 α → Tri) (t : T24 α) : Tri := t (fun a0 a1 a2 a3 a4 a5 a6 a7 a8 a9 a10 a11 a12 a13 a14 a15 a16 a17 a18 a19 a20 a21 a22 a23 => u (fun v => k (fun s => s a0 a1 a2 a3 a4 a5 a6 a7 a8 a9 a10 a11 a12 a13 a14 a15 a16 a17 a18 a19 a20 v a22 a23)) a21)
def g22 (k : α → Tri) (t : T24 α) : Tri := t (fun _ _ _ _ _ _ _ _ _ _ _ _ _ _ _ _ _ _ _ _ _ _ a22 _ => k a22)
def s22 (v : α) (k : T24 α → Tri) (t : T24 α) : Tri := t (fun a0 a1 a2 a3 a4 a5 a6 a7 a8 a9 a10 a11 a12 a13 a14 a15 a16 a17 a18 a19 a20 a21 _ a23 => k (fun s => s a0 a1 a2 a3 a4 a5 a6 a7 a8 a9 a10 a11 a12 a13 a14 a15 a16 a17 a18 a19 a20 a21 v a23))
def u22 (u : (α → Tri) → α → Tri) (k : T24 α → Tri) (t : T24 α) : Tri := t (fun a0 a1 a2 a3 a4 a5 a6 a7 a8 a9 a10 a11 a12 a13 a14 a15 a16 a17 a18 a19 a20 a21 a22 a23 => u (fun v => k (fun s => s a0 a1 a2 a3 a4 a5 a6 a7 a8 a9 a10 a11 a12 a13 a14 a15 a16 a17 a18 a19 a20 a21 v a23)) a22)
def g23 (k : α → Tri) (t : T24 α) : Tri := t (fun _ _ _ _ _ _ _ _ _ _ _ _ _ _ _ _ _ _ _ _ _ _ _ a23 => k a23)
def s23 (v : α) (k : T24 α → Tri) (t : T24 α) : Tri := t (fun a0 a1 a2 a3 a4 a5 a6 a7 a8 a9 a10 a11 a12 a13 a14 a15 a16 a17 a18 a19 a20 a21 a22 _ => k (fun s => s a0 a1 a2 a3 a4 a5 a6 a7 a8 a9 a10 a11 a12 a13 a14 a15 a16 a17 a18 a19 a20 a21 a22 v))
def u23 (u : (α → Tri) → α → Tri) (k : T24 α → Tri) (t : T24 α) : Tri := t (fun a0 a1 a2 a3 a4 a5 a6 a7 a8 a9 a10 a11 a12 a13 a14 a15 a16 a17 a18 a19 a20 a21 a22 a23 => u (fun v => k (fun s => s a0 a1 a2 a3 a4 a5 a6 a7 a8 a9 a10 a11 a12 a13 a14 a15 a16 a17 a18 a19 a20 a21 a22 v)) a23)
/-- Which reader. -/
def gSel {β : Type} (n : Nat) (no : β) (K : ((α → Tri) → T24 α → Tri) → β) : β := Nat.rec (motive := fun _ => β) (K g0) (fun m _ => Nat.rec (motive := fun _ => β) (K g1) (fun m _ => Nat.rec (motive := fun _ => β) (K g2) (fun m _ => Nat.rec (motive := fun _ => β) (K g3) (fun m _ => Nat.rec (motive := fun _ => β) (K g4) (fun m _ => Nat.rec (motive := fun _ => β) (K g5) (fun m _ => Nat.rec (motive := fun _ => β) (K g6) (fun m _ => Nat.rec (motive := fun _ => β) (K g7) (fun m _ => Nat.rec (motive := fun _ => β) (K g8) (fun m _ => Nat.rec (motive := fun _ => β) (K g9) (fun m _ => Nat.rec (motive := fun _ => β) (K g10) (fun m _ => Nat.rec (motive := fun _ => β) (K g11) (fun m _ => Nat.rec (motive := fun _ => β) (K g12) (fun m _ => Nat.rec (motive := fun _ => β) (K g13) (fun m _ => Nat.rec (motive := fun _ => β) (K g14) (fun m _ => Nat.rec (motive := fun _ => β) (K g15) (fun m _ => Nat.rec (motive := fun _ => β) (K g16) (fun m _ => Nat.rec (motive := fun _ => β) (K g17) (fun m _ => Nat.rec (motive := fun _ => β) (K g18) (fun m _ => Nat.rec (motive := fun _ => β) (K g19) (fun m _ => Nat.rec (motive := fun _ => β) (K g20) (fun m _ => Nat.rec (motive := fun _ => β) (K g21) (fun m _ => Nat.rec (motive := fun _ => β) (K g22) (fun m _ => Nat.rec (motive := fun _ => β) (K g23) (fun m _ => no) m) m) m) m) m) m) m) m) m) m) m) m) m) m) m) m) m) m) m) m) m) m) m) n
/-- Which writer. -/
def sSel {β : Type} (n : Nat) (no : β) (K : (α → (T24 α → Tri) → T24 α → Tri) → β) : β := Nat.rec (motive := fun _ => β) (K s0) (fun m _ => Nat.rec (motive := fun _ => β) (K s1) (fun m _ => Nat.rec (motive := fun _ => β) (K s2) (fun m _ => Nat.rec (motive := fun _ => β) (K s3) (fun m _ => Nat.rec (motive := fun _ => β) (K s4) (fun m _ => Nat.rec (motive := fun _ => β) (K s5) (fun m _ => Nat.rec (motive := fun _ => β) (K s6) (fun m _ => Nat.rec (motive := fun _ => β) (K s7) (fun m _ => Nat.rec (motive := fun _ => β) (K s8) (fun m _ => Nat.rec (motive := fun _ => β) (K s9) (fun m _ => Nat.rec (motive := fun _ => β) (K s10) (fun m _ => Nat.rec (motive := fun _ => β) (K s11) (fun m _ => Nat.rec (motive := fun _ => β) (K s12) (fun m _ => Nat.rec (motive := fun _ => β) (K s13) (fun m _ => Nat.rec (motive := fun _ => β) (K s14) (fun m _ => Nat.rec (motive := fun _ => β) (K s15) (fun m _ => Nat.rec (motive := fun _ => β) (K s16) (fun m _ => Nat.rec (motive := fun _ => β) (K s17) (fun m _ => Nat.rec (motive := fun _ => β) (K s18) (fun m _ => Nat.rec (motive := fun _ => β) (K s19) (fun m _ => Nat.rec (motive := fun _ => β) (K s20) (fun m _ => Nat.rec (motive := fun _ => β) (K s21) (fun m _ => Nat.rec (motive := fun _ => β) (K s22) (fun m _ => Nat.rec (motive := fun _ => β) (K s23) (fun m _ => no) m) m) m) m) m) m) m) m) m) m) m) m) m) m) m) m) m) m) m) m) m) m) m) n
/-- Which changer. -/
def uSel {β : Type} (n : Nat) (no : β) (K : (((α → Tri) → α → Tri) → (T24 α → Tri) → T24 α → Tri) → β) : β := Nat.rec (motive := fun _ => β) (K u0) (fun m _ => Nat.rec (motive := fun _ => β) (K u1) (fun m _ => Nat.rec (motive := fun _ => β) (K u2) (fun m _ => Nat.rec (motive := fun _ => β) (K u3) (fun m _ => Nat.rec (motive := fun _ => β) (K u4) (fun m _ => Nat.rec (motive := fun _ => β) (K u5) (fun m _ => Nat.rec (motive := fun _ => β) (K u6) (fun m _ => Nat.rec (motive := fun _ => β) (K u7) (fun m _ => Nat.rec (motive := fun _ => β) (K u8) (fun m _ => Nat.rec (motive := fun _ => β) (K u9) (fun m _ => Nat.rec (motive := fun _ => β) (K u10) (fun m _ => Nat.rec (motive := fun _ => β) (K u11) (fun m _ => Nat.rec (motive := fun _ => β) (K u12) (fun m _ => Nat.rec (motive := fun _ => β) (K u13) (fun m _ => Nat.rec (motive := fun _ => β) (K u14) (fun m _ => Nat.rec (motive := fun _ => β) (K u15) (fun m _ => Nat.rec (motive := fun _ => β) (K u16) (fun m _ => Nat.rec (motive := fun _ => β) (K u17) (fun m _ => Nat.rec (motive := fun _ => β) (K u18) (fun m _ => Nat.rec (motive := fun _ => β) (K u19) (fun m _ => Nat.rec (motive := fun _ => β) (K u20) (fun m _ => Nat.rec (motive := fun _ => β) (K u21) (fun m _ => Nat.rec (motive := fun _ => β) (K u22) (fun m _ => Nat.rec (motive := fun _ => β) (K u23) (fun m _ => no) m) m) m) m) m) m) m) m) m) m) m) m) m) m) m) m) m) m) m) m) m) m) m) n
/-- A row, changed in one place. -/
def upd (f : Nat → α) (i : Nat) (v : α) : Nat → α := fun j => if j = i then v else f j
theorem gSel_eq {β : Type} (n : Nat) (no : β) (K : ((α → Tri) → T24 α → Tri) → β) : gSel n no K = no ∨ ∃ g, gSel n no K = K g ∧ ∀ f k, g k (mk24 f) = k (f n) := by
  rcases n with _ | (_ | (_ | (_ | (_ | (_ | (_ | (_ | (_ | (_ | (_ | (_ | (_ | (_ | (_ | (_ | (_ | (_ | (_ | (_ | (_ | (_ | (_ | (_ | _)))))))))))))))))))))))
  · exact .inr ⟨_, rfl, fun _ _ => rfl⟩
  · exact .inr ⟨_, rfl, fun _ _ => rfl⟩
  · exact .inr ⟨_, rfl, fun _ _ => rfl⟩
  · exact .inr ⟨_, rfl, fun _ _ => rfl⟩
  · exact .inr ⟨_, rfl, fun _ _ => rfl⟩
  · exact .inr ⟨_, rfl, fun _ _ => rfl⟩
  · exact .inr ⟨_, rfl, fun _ _ => rfl⟩
  · exact .inr ⟨_, rfl, fun _ _ => rfl⟩
  · exact .inr ⟨_, rfl, fun _ _ => rfl⟩
  · exact .inr ⟨_, rfl, fun _ _ => rfl⟩
  · exact .inr ⟨_, rfl, fun _ _ => rfl⟩
  · exact .inr ⟨_, rfl, fun _ _ => rfl⟩
  · exact .inr ⟨_, rfl, fun _ _ => rfl⟩
  · exact .inr ⟨_, rfl, fun _ _ => rfl⟩
  · exact .inr ⟨_, rfl, fun _ _ => rfl⟩
  · exact .inr ⟨_, rfl, fun _ _ => rfl⟩
  · exact .inr ⟨_, rfl, fun _ _ => rfl⟩
  · exact .inr ⟨_, rfl, fun _ _ => rfl⟩
  · exact .inr ⟨_, rfl, fun _ _ => rfl⟩
  · exact .inr ⟨_, rfl, fun _ _ => rfl⟩
  · exact .inr ⟨_, rfl, fun _ _ => rfl⟩
  · exact .inr ⟨_, rfl, fun _ _ => rfl⟩
  · exact .inr ⟨_, rfl, fun _ _ => rfl⟩
  · exact .inr ⟨_, rfl, fun _ _ => rfl⟩
  · exact .inl rfl
theorem sSel_eq {β : Type} (n : Nat) (no : β) (K : (α → (T24 α → Tri) → T24 α → Tri) → β) : sSel n no K = no ∨ ∃ g, sSel n no K = K g ∧ ∀ f v k, g v k (mk24 f) = k (mk24 (upd f n v)) := by
  rcases n with _ | (_ | (_ | (_ | (_ | (_ | (_ | (_ | (_ | (_ | (_ | (_ | (_ | (_ | (_ | (_ | (_ | (_ | (_ | (_ | (_ | (_ | (_ | (_ | _)))))))))))))))))))))))
  · exact .inr ⟨_, rfl, fun _ _ _ => rfl⟩
  · exact .inr ⟨_, rfl, fun _ _ _ => rfl⟩
  · exact .inr ⟨_, rfl, fun _ _ _ => rfl⟩
  · exact .inr ⟨_, rfl, fun _ _ _ => rfl⟩
  · exact .inr ⟨_, rfl, fun _ _ _ => rfl⟩
  · exact .inr ⟨_, rfl, fun _ _ _ => rfl⟩
  · exact .inr ⟨_, rfl, fun _ _ _ => rfl⟩
  · exact .inr ⟨_, rfl, fun _ _ _ => rfl⟩
  · exact .inr ⟨_, rfl, fun _ _ _ => rfl⟩
  · exact .inr ⟨_, rfl, fun _ _ _ => rfl⟩
  · exact .inr ⟨_, rfl, fun _ _ _ => rfl⟩
  · exact .inr ⟨_, rfl, fun _ _ _ => rfl⟩
  · exact .inr ⟨_, rfl, fun _ _ _ => rfl⟩
  · exact .inr ⟨_, rfl, fun _ _ _ => rfl⟩
  · exact .inr ⟨_, rfl, fun _ _ _ => rfl⟩
  · exact .inr ⟨_, rfl, fun _ _ _ => rfl⟩
  · exact .inr ⟨_, rfl, fun _ _ _ => rfl⟩
  · exact .inr ⟨_, rfl, fun _ _ _ => rfl⟩
  · exact .inr ⟨_, rfl, fun _ _ _ => rfl⟩
  · exact .inr ⟨_, rfl, fun _ _ _ => rfl⟩
  · exact .inr ⟨_, rfl, fun _ _ _ => rfl⟩
  · exact .inr ⟨_, rfl, fun _ _ _ => rfl⟩
  · exact .inr ⟨_, rfl, fun _ _ _ => rfl⟩
  · exact .inr ⟨_, rfl, fun _ _ _ => rfl⟩
  · exact .inl rfl
theorem uSel_eq {β : Type} (n : Nat) (no : β) (K : (((α → Tri) → α → Tri) → (T24 α → Tri) → T24 α → Tri) → β) : uSel n no K = no ∨ ∃ g, uSel n no K = K g ∧ ∀ f u k, g u k (mk24 f) = u (fun v => k (mk24 (upd f n v))) (f n) := by
  rcases n with _ | (_ | (_ | (_ | (_ | (_ | (_ | (_ | (_ | (_ | (_ | (_ | (_ | (_ | (_ | (_ | (_ | (_ | (_ | (_ | (_ | (_ | (_ | (_ | _)))))))))))))))))))))))
  · exact .inr ⟨_, rfl, fun _ _ _ => rfl⟩
  · exact .inr ⟨_, rfl, fun _ _ _ => rfl⟩
  · exact .inr ⟨_, rfl, fun _ _ _ => rfl⟩
  · exact .inr ⟨_, rfl, fun _ _ _ => rfl⟩
  · exact .inr ⟨_, rfl, fun _ _ _ => rfl⟩
  · exact .inr ⟨_, rfl, fun _ _ _ => rfl⟩
  · exact .inr ⟨_, rfl, fun _ _ _ => rfl⟩
  · exact .inr ⟨_, rfl, fun _ _ _ => rfl⟩
  · exact .inr ⟨_, rfl, fun _ _ _ => rfl⟩
  · exact .inr ⟨_, rfl, fun _ _ _ => rfl⟩
  · exact .inr ⟨_, rfl, fun _ _ _ => rfl⟩
  · exact .inr ⟨_, rfl, fun _ _ _ => rfl⟩
  · exact .inr ⟨_, rfl, fun _ _ _ => rfl⟩
  · exact .inr ⟨_, rfl, fun _ _ _ => rfl⟩
  · exact .inr ⟨_, rfl, fun _ _ _ => rfl⟩
  · exact .inr ⟨_, rfl, fun _ _ _ => rfl⟩
  · exact .inr ⟨_, rfl, fun _ _ _ => rfl⟩
  · exact .inr ⟨_, rfl, fun _ _ _ => rfl⟩
  · exact .inr ⟨_, rfl, fun _ _ _ => rfl⟩
  · exact .inr ⟨_, rfl, fun _ _ _ => rfl⟩
  · exact .inr ⟨_, rfl, fun _ _ _ => rfl⟩
  · exact .inr ⟨_, rfl, fun _ _ _ => rfl⟩
  · exact .inr ⟨_, rfl, fun _ _ _ => rfl⟩
  · exact .inr ⟨_, rfl, fun _ _ _ => rfl⟩
  · exact .inl rfl

abbrev F := T24 (T24 AV)
/-- A frame's content. -/
def mkF (f : Nat → AV) : F := mk24 fun i => mk24 fun j => f (24 * i + j)
/-- The reader of a slot; the writer. -/
def fGet {β : Type} (p : Pos) (no : β) (K : ((AV → Tri) → F → Tri) → β) : β :=
  gSel (p.num / 24) no fun r => gSel (p.num % 24) no fun c => K fun k t => r (fun u => c k u) t
def fSet {β : Type} (p : Pos) (no : β) (K : (AV → (F → Tri) → F → Tri) → β) : β :=
  uSel (p.num / 24) no fun r => sSel (p.num % 24) no fun c => K fun v k t => chk (r (fun k u => c v k u) k t) v

theorem mk24_congr {f g : Nat → α} (h : ∀ j, j < 24 → f j = g j) : mk24 f = mk24 g := by
  unfold mk24
  funext s
  rw [h 0 (by omega), h 1 (by omega), h 2 (by omega), h 3 (by omega), h 4 (by omega), h 5 (by omega), h 6 (by omega), h 7 (by omega), h 8 (by omega), h 9 (by omega), h 10 (by omega), h 11 (by omega), h 12 (by omega), h 13 (by omega), h 14 (by omega), h 15 (by omega), h 16 (by omega), h 17 (by omega), h 18 (by omega), h 19 (by omega), h 20 (by omega), h 21 (by omega), h 22 (by omega), h 23 (by omega)]

theorem mkF_upd (f : Nat → AV) (n : Nat) (v : AV) (h : n / 24 < 24) : mk24 (upd (fun i => mk24 fun j => f (24 * i + j)) (n / 24) (mk24 (upd (fun j => f (24 * (n / 24) + j)) (n % 24) v))) = mkF (upd f n v) := by
  have hn := Nat.div_add_mod n 24
  unfold mkF
  refine mk24_congr fun i _ => ?_
  unfold upd
  by_cases hi : i = n / 24
  · rw [if_pos hi]
    subst hi
    refine mk24_congr fun j hj => ?_
    by_cases hj2 : j = n % 24
    · rw [if_pos hj2, if_pos (by omega)]
    · rw [if_neg hj2, if_neg (by omega)]
  · rw [if_neg hi]
    refine mk24_congr fun j hj => ?_
    rw [if_neg (by omega)]


theorem gSel_lt {β : Type} {n : Nat} {no : β} {K : ((α → Tri) → T24 α → Tri) → β} (h : 24 ≤ n) : gSel n no K = no := by
  obtain ⟨m, rfl⟩ : ∃ m, n = m + 24 := ⟨n - 24, by omega⟩
  rfl
theorem uSel_lt {β : Type} {n : Nat} {no : β} {K : (((α → Tri) → α → Tri) → (T24 α → Tri) → T24 α → Tri) → β} (h : 24 ≤ n) : uSel n no K = no := by
  obtain ⟨m, rfl⟩ : ∃ m, n = m + 24 := ⟨n - 24, by omega⟩
  rfl

theorem fGet_eq {β : Type} (p : Pos) (no : β) (K : ((AV → Tri) → F → Tri) → β) : fGet p no K = no ∨ ∃ g, fGet p no K = K g ∧ ∀ f k, g k (mkF f) = k (f p.num) := by
  unfold fGet
  rcases gSel_eq (p.num / 24) no (fun r => gSel (p.num % 24) no fun c => K fun k t => r (fun u => c k u) t) with h | ⟨r, h, hr⟩
  · exact .inl h
  rw [h]
  rcases gSel_eq (p.num % 24) no (fun c => K fun k t => r (fun u => c k u) t) with h | ⟨c, h, hc⟩
  · exact .inl h
  rw [h]
  refine .inr ⟨_, rfl, fun f k => ?_⟩
  show r (fun u => c k u) (mkF f) = _
  unfold mkF
  rw [hr, hc, Nat.div_add_mod]

theorem fSet_eq {β : Type} (p : Pos) (no : β) (K : (AV → (F → Tri) → F → Tri) → β) : fSet p no K = no ∨ ∃ g, fSet p no K = K g ∧ ∀ f v k, g v k (mkF f) = chk (k (mkF (upd f p.num v))) v := by
  unfold fSet
  by_cases hlt : p.num / 24 < 24
  · rcases uSel_eq (p.num / 24) no (fun r => sSel (p.num % 24) no fun c => K fun v k t => chk (r (fun k u => c v k u) k t) v) with h | ⟨r, h, hr⟩
    · exact .inl h
    rw [h]
    rcases sSel_eq (p.num % 24) no (fun c => K fun v k t => chk (r (fun k u => c v k u) k t) v) with h | ⟨c, h, hc⟩
    · exact .inl h
    rw [h]
    refine .inr ⟨_, rfl, fun f v k => ?_⟩
    show chk (r (fun k u => c v k u) k (mkF f)) v = _
    unfold mkF
    rw [hr, hc]
    show chk (k (mk24 (upd (fun i => mk24 fun j => f (24 * i + j)) (p.num / 24) (mk24 (upd (fun j => f (24 * (p.num / 24) + j)) (p.num % 24) v))))) v = _
    rw [mkF_upd f p.num v hlt]
    rfl
  · exact .inl (uSel_lt (by omega))

/-- The slots of a frame: what lies there is what the other frame has; where '.nil' does, that one has nothing. -/
def RFx (f : Nat → AV) (fr : Tr AV) : Prop := (∀ p : Pos, f p.num ≠ .nil → fr.get p = some (f p.num)) ∧ ∀ p : Pos, f p.num = .nil → fr.get p = none
def RF (t : F) (fr : Tr AV) : Prop := ∃ f : Nat → AV, t = mkF f ∧ RFx f fr
def empty : F := mkF fun _ => .nil
theorem RF.empty : RF empty .leaf := ⟨_, rfl, fun _ h => absurd rfl h, fun _ _ => Tr.get_leaf _⟩
theorem RFx.set {fr : Tr AV} {p : Pos} {v : AV} {f : Nat → AV} (h : RFx f fr) (hv : v ≠ .nil) : RFx (upd f p.num v) (fr.set p v) := by
  refine ⟨fun q hq => ?_, fun q hq => ?_⟩
  · rw [Tr.get_set]
    unfold upd at hq ⊢
    by_cases e : q.num = p.num
    · rw [if_pos e, if_pos (Pos.num_inj e)]
    · rw [if_neg e] at hq ⊢
      rw [if_neg (fun h => e (by rw [h]))]
      exact h.1 q hq
  · rw [Tr.get_set]
    unfold upd at hq
    by_cases e : q.num = p.num
    · rw [if_pos e] at hq; exact absurd hq hv
    · rw [if_neg e] at hq
      rw [if_neg (fun h => e (by rw [h]))]
      exact h.2 q hq
theorem RF.set {fr : Tr AV} {p : Pos} {v : AV} {f : Nat → AV} (h : RFx f fr) (hv : v ≠ .nil) : RF (mkF (upd f p.num v)) (fr.set p v) := ⟨_, rfl, h.set hv⟩
end
end Go.Dx.K
