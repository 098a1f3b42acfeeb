import Derived.Test.YthpnhdopheofcaaDxLv
set_option linter.unusedSimpArgs false
set_option linter.unusedVariables false
namespace Go.Dx
section
variable (tbl : Nat → Option CFunc) {ci : CI} {ls : AV} {fr : Tr AV} {dst : Option Pos} {M : Mem} {Q : Ex → Tr AV → Mem → Prop} (d : DIs) (R : List Pos) (Ms : List Mem)
@[go_sem] theorem bkW_succ (bk : Nat) (v : AV) (M' : Mem) : bkW tbl false ci (bk + 1) d R (M' :: Ms) ls fr dst M Q v = (bsW tbl ci.still ci ls fr v bk M' Ms ∧ dK tbl d R (M' :: Ms) ls fr dst Q v M) := by
 rw [← backW_succ]
 simp [bkW, dK]
@[go_sem] theorem backW_more (v : AV) (n : Nat) (M' : Mem) : backW ci ls fr v (n + 1) (M' :: Ms) = bsW (fun _ => none) ci.still ci ls fr v n M' Ms := backW_succ _ _ _ _ _ _ _ _
attribute [go_sem] true_and and_true
@[go_sem] theorem natO_zero (c : Nat) : natO (.int c 0) = some 0 := _root_.id rfl
@[go_sem] theorem natO_one (c : Nat) : natO (.int c 1) = some 1 := _root_.id rfl
@[go_sem] theorem Int.cast0 : ((0 : Nat) : Int) = 0 := _root_.id rfl
@[go_sem] theorem bne_ft : (false != true) = true := _root_.id rfl
@[go_sem] theorem bne_ff : (false != false) = false := _root_.id rfl
@[go_sem] theorem bne_tt : (true != true) = false := _root_.id rfl
@[go_sem] theorem bne_tf : (true != false) = true := _root_.id rfl
@[go_sem] theorem beq_ft : (false == true) = false := _root_.id rfl
@[go_sem] theorem beq_ff : (false == false) = true := _root_.id rfl
@[go_sem] theorem beq_tt : (true == true) = true := _root_.id rfl
@[go_sem] theorem beq_tf : (true == false) = false := _root_.id rfl
end
section
variable (M : Mem) (p : Pos) (a b c : Nat) (f : Fn) (x y : AV)
@[go_sem] theorem eqM_snn : eqM M .slice .nilslice .nilslice = some true := _root_.id rfl
@[go_sem] theorem eqM_sns : eqM M .slice .nilslice (.slice p a b c) = some false := _root_.id rfl
@[go_sem] theorem eqM_sno : eqM M .slice .nilslice (.oslice p a b c) = some false := _root_.id rfl
@[go_sem] theorem eqM_ssn : eqM M .slice (.slice p a b c) .nilslice = some false := _root_.id rfl
@[go_sem] theorem eqM_son : eqM M .slice (.oslice p a b c) .nilslice = some false := _root_.id rfl
@[go_sem] theorem eqM_fnn : eqM M .func .nilfunc .nilfunc = some true := _root_.id rfl
@[go_sem] theorem eqM_fnf : eqM M .func .nilfunc (.func f x y) = some false := _root_.id rfl
@[go_sem] theorem eqM_ffn : eqM M .func (.func f x y) .nilfunc = some false := _root_.id rfl
@[go_sem] theorem eqM_inn : eqM M .iface .niliface .niliface = some true := _root_.id rfl
@[go_sem] theorem eqM_ini : eqM M .iface .niliface (.iface a x) = some false := _root_.id rfl
@[go_sem] theorem eqM_iin : eqM M .iface (.iface a x) .niliface = some false := _root_.id rfl
end
theorem But.same {M : Mem} {p : Pos} {b : MB} (h : M.get p = some b) (S : Pos → Prop) : But S M (M.put p b) := ⟨Nat.le_refl _, fun q c _ hq => by
 show (if q = p then some b else M.get q) = some c
 split
 ·rename_i e; subst e; rw [← h, hq]
 ·exact hq⟩
theorem But.any {M M' : Mem} (h : But (fun _ => False) M M') (S : Pos → Prop) : But S M M' := h.mono fun _ h => h.elim
section
variable (tbl : Nat → Option CFunc) {ci : CI} {ls : AV} {fr : Tr AV} {dst : Option Pos} {M : Mem} {Q : Ex → Tr AV → Mem → Prop} (d : DIs) (p : Pos) (R : List Pos) (Ms : List Mem)
def fl2K (v : AV) (ls : AV) (fr : Tr AV) (dst : Option Pos) (M : Mem) (Q : Ex → Tr AV → Mem → Prop) (b : MB) : Prop := DIs.wp tbl d R (Ms.map fun M => M.put p b) (.cons v ls) (setDst fr dst v) (M.put p b) Q
def flK (ls : AV) (fr : Tr AV) (dst : Option Pos) (M : Mem) (Q : Ex → Tr AV → Mem → Prop) (v : AV) (F : Mem) : Prop := someW (F.get p) (fl2K tbl d p R Ms v ls fr dst M Q)
def flR (p : Pos) : List Mem → Prop
 | [] => True
 | M :: r => p.num < M.next.num ∧ flR p r
theorem flR_all (p : Pos) : ∀ Ms : List Mem, (∀ M' ∈ Ms, p.num < M'.next.num) = flR p Ms
 | [] => by simp [flR]
 | M :: r => by simp [flR, ← flR_all p r]
@[go_sem] theorem flR_nil : flR p [] = True := _root_.id rfl
@[go_sem] theorem flR_cons : flR p (M :: Ms) = (p.num < M.next.num ∧ flR p Ms) := _root_.id rfl
def flW (still : Bool) (ci : CI) (ls : AV) (fr : Tr AV) (dst : Option Pos) (M : Mem) (Q : Ex → Tr AV → Mem → Prop) : Prop :=
 if still then (p.num < M.next.num ∧ flR p Ms) ∧ instW tbl ci ls fr ⟨p, fun _ => none⟩ (flK tbl d p R Ms ls fr dst M Q) noK else DIs.wp tbl (.cons none ci dst .float d) (p :: R) Ms ls fr M Q
@[go_sem ↓] theorem ds_float : DIs.wp tbl (.cons none ci dst .float d) (p :: R) Ms ls fr M Q = flW tbl d p R Ms ci.still ci ls fr dst M Q := by
 unfold flW
 cases h : ci.still with
 | true =>
  simp only [if_true]
  rw [instW_still _ _ _ _ _ _ h, ← flR_all, and_assoc]; rfl
 | false => rfl
@[go_sem] theorem flW_true : flW tbl d p R Ms true ci ls fr dst M Q = ((p.num < M.next.num ∧ flR p Ms) ∧ instW tbl ci ls fr ⟨p, fun _ => none⟩ (flK tbl d p R Ms ls fr dst M Q) noK) := _root_.id rfl
@[go_sem ↓] theorem flK_app (v : AV) (F : Mem) : flK tbl d p R Ms ls fr dst M Q v F = someW (F.get p) (fl2K tbl d p R Ms v ls fr dst M Q) := _root_.id rfl
@[go_sem ↓] theorem fl2K_none (v : AV) (b : MB) : fl2K tbl d p R Ms v ls fr none M Q b = DIs.wp tbl d R (Ms.map fun M => M.put p b) (.cons v ls) fr (M.put p b) Q := _root_.id rfl
@[go_sem ↓] theorem fl2K_some (v : AV) (b : MB) (q : Pos) : fl2K tbl d p R Ms v ls fr (some q) M Q b = DIs.wp tbl d R (Ms.map fun M => M.put p b) (.cons v ls) (Tr.set q v fr) (M.put p b) Q := _root_.id rfl
attribute [go_sem] List.map_cons List.map_nil
@[go_sem] theorem Pos.lt_succ : (p.num < p.succ.num) = True := eq_true (by rw [Pos.num_succ]; omega)
@[go_sem] theorem put_reserved (b : MB) : Mem.put ⟨M.next.succ, M.get⟩ M.next b = M.new b := _root_.id rfl
end
end Go.Dx
