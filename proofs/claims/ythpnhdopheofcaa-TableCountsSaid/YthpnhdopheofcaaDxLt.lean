import Derived.Test.YthpnhdopheofcaaDxLs
import Derived.Attr
set_option linter.unusedSimpArgs false
set_option linter.unusedVariables false
namespace Go.Dx
def Mem.wf (M : Mem) : Prop := ∀ p b, M.get p = some b → p.num < M.next.num
theorem Sees.wf {H : Heap} {M : Mem} (h : Sees H M) : M.wf := fun p b hp => (h.at_ p b hp).1
theorem Mem.wf.ne {M : Mem} (h : M.wf) {p : Pos} {b : MB} (hp : M.get p = some b) : (p = M.next) = False := eq_false fun e => by have := h p b hp; rw [e] at this; omega
theorem Mem.wf.ne' {M : Mem} (h : M.wf) {p : Pos} {b : MB} (hp : M.get p = some b) : (M.next = p) = False := eq_false fun e => by have := h p b hp; rw [← e] at this; omega
theorem Pos.ne_of_lt {p q : Pos} (h : p.num < q.num) : (p = q) = False := eq_false fun e => by rw [e] at h; omega
theorem Mem.wf.new {M : Mem} (h : M.wf) (b : MB) : (M.new b).wf := fun p c hp => by
 show p.num < M.next.succ.num
 rw [Pos.num_succ]
 simp only [Mem.new] at hp
 split at hp
 ·rename_i e; rw [e]; omega
 ·have := h p c hp; omega
theorem Mem.wf.put {M : Mem} (h : M.wf) {p : Pos} {o : MB} (hp : M.get p = some o) (b : MB) : (M.put p b).wf := fun q c hq => by
 show q.num < M.next.num
 simp only [Mem.put] at hq
 split at hq
 ·rename_i e; rw [e]; exact h p o hp
 ·exact h q c hq
structure Old (M M' : Mem) : Prop where
 next : M.next.num ≤ M'.next.num
 get : ∀ p b, M.get p = some b → M'.get p = some b
theorem Old.refl (M : Mem) : Old M M := ⟨Nat.le_refl _, fun _ _ h => h⟩
theorem Old.trans {A B C : Mem} (h : Old A B) (k : Old B C) : Old A C := ⟨Nat.le_trans h.next k.next, fun p b hp => k.get p b (h.get p b hp)⟩
theorem Old.new {M : Mem} (h : M.wf) (b : MB) : Old M (M.new b) := ⟨by show M.next.num ≤ M.next.succ.num; rw [Pos.num_succ]; omega, fun p c hp => by
 simp only [Mem.new]
 rw [if_neg (by rw [h.ne hp]; exact id)]; exact hp⟩
section
variable (M : Mem) (p q : Pos) (b : MB) (l : List AV) (op : Bool) (off n : Nat)
@[go_sem] theorem Mem.next_new : (M.new b).next = M.next.succ := _root_.id rfl
@[go_sem] theorem Mem.next_put : (M.put p b).next = M.next := _root_.id rfl
@[go_sem] theorem Mem.get_new : (M.new b).get q = if q = M.next then some b else M.get q := _root_.id rfl
@[go_sem] theorem Mem.get_put : (M.put p b).get q = if q = p then some b else M.get q := _root_.id rfl
@[go_sem] theorem Pos.succ_ne : (p.succ = p) = False := eq_false fun e => by have := congrArg Pos.num e; rw [Pos.num_succ] at this; omega
@[go_sem] theorem Pos.ne_succ : (p = p.succ) = False := eq_false fun e => by have := congrArg Pos.num e; rw [Pos.num_succ] at this; omega
@[go_sem] theorem Pos.ne_succ2 : (p = p.succ.succ) = False := eq_false fun e => by have := congrArg Pos.num e; rw [Pos.num_succ, Pos.num_succ] at this; omega
@[go_sem] theorem Pos.ne_succ3 : (p = p.succ.succ.succ) = False := eq_false fun e => by have := congrArg Pos.num e; rw [Pos.num_succ, Pos.num_succ, Pos.num_succ] at this; omega
@[go_sem] theorem Pos.ne_succ4 : (p = p.succ.succ.succ.succ) = False := eq_false fun e => by have := congrArg Pos.num e; simp only [Pos.num_succ] at this; omega
@[go_sem] theorem Pos.succ_ne2 : (p.succ.succ = p) = False := eq_false fun e => by have := congrArg Pos.num e; simp only [Pos.num_succ] at this; omega
@[go_sem] theorem Pos.succ_ne3 : (p.succ.succ.succ = p) = False := eq_false fun e => by have := congrArg Pos.num e; simp only [Pos.num_succ] at this; omega
@[go_sem] theorem Pos.succ_ne4 : (p.succ.succ.succ.succ = p) = False := eq_false fun e => by have := congrArg Pos.num e; simp only [Pos.num_succ] at this; omega
@[go_sem] theorem Pos.succ_eq : (p.succ = q.succ) = (p = q) := propext ⟨fun e => Pos.num_inj (by have := congrArg Pos.num e; simp only [Pos.num_succ] at this; omega), fun e => e ▸ rfl⟩
def MB.cell (b : Option MB) (off : Nat) : Option AV := match b with
 | some (.cells l _) => l[off]?
 | some (.ro l) => l[off]?
 | _ => none
def MB.cellsAt (b : Option MB) (off n : Nat) : Option (List AV) := match b with
 | some (.cells l _) => if off + n ≤ l.length then some ((l.drop off).take n) else none
 | some (.ro l) => if off + n ≤ l.length then some ((l.drop off).take n) else none
 | _ => none
@[go_sem] theorem Mem.cell_eq : M.cell p off = MB.cell (M.get p) off := _root_.id rfl
@[go_sem] theorem Mem.cellsAt_eq : M.cellsAt p off n = MB.cellsAt (M.get p) off n := _root_.id rfl
@[go_sem] theorem MB.cell_cells : MB.cell (some (.cells l op)) off = l[off]? := _root_.id rfl
@[go_sem] theorem MB.cell_ro : MB.cell (some (.ro l)) off = l[off]? := _root_.id rfl
@[go_sem] theorem MB.cellsAt_cells : MB.cellsAt (some (.cells l op)) off n = if off + n ≤ l.length then some ((l.drop off).take n) else none := _root_.id rfl
@[go_sem] theorem MB.cellsAt_ro : MB.cellsAt (some (.ro l)) off n = if off + n ≤ l.length then some ((l.drop off).take n) else none := _root_.id rfl
def Mem.storeIn (M : Mem) (p : Pos) (b : Option MB) (off : Nat) (vs : List AV) : Option Mem := match b with
 | some (.cells l op) => if off + vs.length ≤ l.length ∧ vs.all isCell = true then some (M.put p (.cells (overL l off vs) op)) else none
 | _ => none
@[go_sem] theorem Mem.store_eq (vs : List AV) : M.store p off vs = M.storeIn p (M.get p) off vs := _root_.id rfl
@[go_sem] theorem Mem.storeIn_cells (vs : List AV) : M.storeIn p (some (.cells l op)) off vs = if off + vs.length ≤ l.length ∧ vs.all isCell = true then some (M.put p (.cells (overL l off vs) op)) else none := _root_.id rfl
@[go_sem] theorem Mem.row_eq (vs : List AV) : M.row vs op = if vs.all isCell = true then some (M.next, M.new (.cells vs op)) else none := _root_.id rfl
end
def MB.find (b : Option MB) (k : EK) (key : AV) : Option (Option AV) := match b with
 | some (.map es _) => es.find k key
 | _ => none
def Mem.putIn (M : Mem) (p : Pos) (b : Option MB) (k : EK) (key v : AV) : Option Mem := match b with
 | some (.map es clock) => (es.put k key v clock).map fun (es', fresh) => M.put p (.map es' (if fresh then clock + 1 else clock))
 | _ => none
def Mem.delIn (M : Mem) (p : Pos) (b : Option MB) (k : EK) (key : AV) : Option Mem := match b with
 | some (.map es clock) => (es.del k key).map fun es' => M.put p (.map es' clock)
 | _ => none
section
variable (M : Mem) (p : Pos) (k : EK) (key v : AV) (es : ME) (clock : Nat)
@[go_sem] theorem mapLookM_nil : mapLookM M k key .nilmap = some none := _root_.id rfl
@[go_sem] theorem mapLookM_map : mapLookM M k key (.map p) = MB.find (M.get p) k key := _root_.id rfl
@[go_sem] theorem MB.find_map : MB.find (some (.map es clock)) k key = es.find k key := _root_.id rfl
@[go_sem] theorem mapPutM_map : mapPutM M k key v (.map p) = M.putIn p (M.get p) k key v := _root_.id rfl
@[go_sem] theorem Mem.putIn_map : M.putIn p (some (.map es clock)) k key v = (es.put k key v clock).map fun (es', fresh) => M.put p (.map es' (if fresh then clock + 1 else clock)) := _root_.id rfl
@[go_sem] theorem mapDelM_map : mapDelM M k key (.map p) = M.delIn p (M.get p) k key := _root_.id rfl
@[go_sem] theorem Mem.delIn_map : M.delIn p (some (.map es clock)) k key = (es.del k key).map fun es' => M.put p (.map es' clock) := _root_.id rfl
@[go_sem] theorem okKey_int (c : Nat) (n : Int) : okKey (.leaf .int) (.int c n) = true := by simp [okKey, eqKey, eqLeaf]
@[go_sem] theorem okKey_str (c n : Nat) : okKey (.leaf .str) (.str c n) = true := by simp [okKey, eqKey, eqLeaf]
@[go_sem] theorem lookRes_sf (z v : AV) : lookRes z false (some v) = v := _root_.id rfl
@[go_sem] theorem lookRes_nf (z : AV) : lookRes z false none = z := _root_.id rfl
@[go_sem] theorem lookRes_st (z v : AV) : lookRes z true (some v) = .tuple (.cons v (.cons (.bool true) .nil)) := _root_.id rfl
@[go_sem] theorem lookRes_nt (z : AV) : lookRes z true none = .tuple (.cons z (.cons (.bool false) .nil)) := _root_.id rfl
end
@[go_sem] theorem overL_def (l : List AV) (off : Nat) (vs : List AV) : overL l off vs = l.take off ++ vs ++ l.drop (off + vs.length) := _root_.id rfl
attribute [go_sem] AV.toL AV.ofL AV.isList AV.len AV.app List.all_cons List.all_nil List.length_cons List.length_nil List.take_zero List.take_nil List.take_succ_cons List.drop_zero List.drop_nil List.drop_succ_cons List.cons_append List.nil_append List.append_nil
 List.getElem?_cons_zero List.getElem?_cons_succ List.getElem?_nil Bool.and_true Bool.true_and Bool.and_self if_true if_false ite_true ite_false and_self and_true true_and Option.map_some
@[go_sem] theorem cells_b (b : Bool) : AV.cells (.bool b) = .cons (.bool b) .nil := _root_.id rfl
@[go_sem] theorem cells_i (c : Nat) (n : Int) : AV.cells (.int c n) = .cons (.int c n) .nil := _root_.id rfl
@[go_sem] theorem cells_s (l n : Nat) : AV.cells (.str l n) = .cons (.str l n) .nil := _root_.id rfl
@[go_sem] theorem cells_p (p : Pos) (o : Nat) : AV.cells (.ptr p o) = .cons (.ptr p o) .nil := _root_.id rfl
@[go_sem] theorem cells_np  : AV.cells .nilptr = .cons .nilptr .nil := _root_.id rfl
@[go_sem] theorem cells_sl (p : Pos) (a b c : Nat) : AV.cells (.slice p a b c) = .cons (.slice p a b c) .nil := _root_.id rfl
@[go_sem] theorem cells_os (p : Pos) (a b c : Nat) : AV.cells (.oslice p a b c) = .cons (.oslice p a b c) .nil := _root_.id rfl
@[go_sem] theorem cells_ns  : AV.cells .nilslice = .cons .nilslice .nil := _root_.id rfl
@[go_sem] theorem cells_m (p : Pos) : AV.cells (.map p) = .cons (.map p) .nil := _root_.id rfl
@[go_sem] theorem cells_nm  : AV.cells .nilmap = .cons .nilmap .nil := _root_.id rfl
@[go_sem] theorem cells_f (f : Fn) (a b : AV) : AV.cells (.func f a b) = .cons (.func f a b) .nil := _root_.id rfl
@[go_sem] theorem cells_nf  : AV.cells .nilfunc = .cons .nilfunc .nil := _root_.id rfl
@[go_sem] theorem cells_ifc (t : Nat) (v : AV) : AV.cells (.iface t v) = .cons (.iface t v) .nil := _root_.id rfl
@[go_sem] theorem cells_ni  : AV.cells .niliface = .cons .niliface .nil := _root_.id rfl
@[go_sem] theorem cells_agg (cs : AV) : AV.cells (.agg cs) = cs := _root_.id rfl
@[go_sem] theorem cells_cell (v : AV) (h : isCell v = true) : v.cells = .cons v .nil := by cases v <;> first | rfl | cases h
def andO (a : Bool) (b : Option Bool) : Option Bool := if a then b else some false
def natO : AV → Option Nat
 | .int _ n => if 0 ≤ n then some n.toNat else none
 | _ => none
@[go_sem] theorem natO_nat (c n : Nat) : natO (.int c (n : Int)) = some n := by simp [natO]
@[go_sem] theorem natO_lit (c n : Nat) : natO (.int c (@OfNat.ofNat Int n _)) = some (@OfNat.ofNat Nat n (instOfNatNat n)) := natO_nat c n
theorem natW_natO (v : AV) (k : Nat → Prop) : natW v k = someW (natO v) k := by
 cases v <;> first | rfl | skip
 rename_i c n
 by_cases h : 0 ≤ n
 ·simp [natW, natO, h, someW]
 ·simp [natW, natO, h, someW]
theorem someW_if {α : Type} (c : Prop) [Decidable c] (o : Option α) (k : α → Prop) : someW (if c then o else none) k = (c ∧ someW o k) := by
 by_cases h : c <;> simp [h, someW]
@[go_sem] theorem someW_some {α : Type} (a : α) (k : α → Prop) : someW (some a) k = k a := _root_.id rfl
section
variable (tbl : Nat → Option CFunc) (ls : AV) (fr : Tr AV) (M : Mem) (k kp : AV → Mem → Prop)
theorem nthW_some (v : AV) (j : Nat) (k : AV → Prop) : (match v.nth j with | some v => k v | none => False) = someW (v.nth j) k := by unfold someW; cases v.nth j <;> rfl
theorem getW_some (p : Pos) (k : AV → Prop) : (match fr.get p with | some v => k v | none => False) = someW (fr.get p) k := by unfold someW; cases fr.get p <;> rfl
@[go_sem ↓] theorem opW_loc (j : Nat) (k : AV → Prop) : opW ls fr (.loc j) k = someW (ls.nth j) k := nthW_some ls j k
@[go_sem ↓] theorem opW_var (p : Pos) (k : AV → Prop) : opW ls fr (.var p) k = someW (fr.get p) k := getW_some fr p k
@[go_sem ↓] theorem opW_lit (v : AV) (k : AV → Prop) : opW ls fr (.lit v) k = k v := _root_.id rfl
attribute [go_sem] AV.nth Tr.get
@[go_sem] theorem Tr.get_set' (p q : Pos) (x : AV) : Tr.get q (Tr.set p x fr) = if q = p then some x else Tr.get q fr := Tr.get_set p q x fr
theorem Pos.h_o (p : Pos) : (Pos.h = .o p) = False := eq_false fun e => by cases e
theorem Pos.h_i (p : Pos) : (Pos.h = .i p) = False := eq_false fun e => by cases e
theorem Pos.o_h (p : Pos) : (Pos.o p = .h) = False := eq_false fun e => by cases e
theorem Pos.i_h (p : Pos) : (Pos.i p = .h) = False := eq_false fun e => by cases e
theorem Pos.o_i (p q : Pos) : (Pos.o p = .i q) = False := eq_false fun e => by cases e
theorem Pos.i_o (p q : Pos) : (Pos.i p = .o q) = False := eq_false fun e => by cases e
attribute [go_sem] Pos.h_o Pos.h_i Pos.o_h Pos.i_h Pos.o_i Pos.i_o Pos.o.injEq Pos.i.injEq
def ops1K (r : Opds) (ls : AV) (fr : Tr AV) (k : AV → Prop) (v : AV) : Prop := opsW ls fr r fun vs => k (.cons v vs)
def ops2K (v : AV) (k : AV → Prop) (vs : AV) : Prop := k (.cons v vs)
@[go_sem ↓] theorem opsW_nil (k : AV → Prop) : opsW ls fr .nil k = k .nil := _root_.id rfl
@[go_sem ↓] theorem opsW_cons (x : Opd) (r : Opds) (k : AV → Prop) : opsW ls fr (.cons x r) k = opW ls fr x (ops1K r ls fr k) := _root_.id rfl
@[go_sem ↓] theorem ops1K_app (r : Opds) (k : AV → Prop) (v : AV) : ops1K r ls fr k v = opsW ls fr r (ops2K v k) := _root_.id rfl
@[go_sem ↓] theorem ops2K_app (k : AV → Prop) (v vs : AV) : ops2K v k vs = k (.cons v vs) := _root_.id rfl
def optK (k : Option Nat → Prop) (v : AV) : Prop := someW (natO v) fun n => k (some n)
def opt2K (k : Option Nat → Prop) (n : Nat) : Prop := k (some n)
@[go_sem ↓] theorem optW_none (k : Option Nat → Prop) : optW ls fr none k = k none := _root_.id rfl
@[go_sem ↓] theorem optW_some (x : Opd) (k : Option Nat → Prop) : optW ls fr (some x) k = opW ls fr x (optK k) := by
 show opW ls fr x _ = opW ls fr x _
 congr 1
 funext v
 unfold optK
 rw [← natW_natO]
 cases v <;> rfl
@[go_sem ↓] theorem optK_app (k : Option Nat → Prop) (v : AV) : optK k v = someW (natO v) (opt2K k) := _root_.id rfl
@[go_sem ↓] theorem opt2K_app (k : Option Nat → Prop) (n : Nat) : opt2K k n = k (some n) := _root_.id rfl
def valK (M : Mem) (k : AV → Mem → Prop) (v : AV) : Prop := k v M
def boK (M : Mem) (k : AV → Mem → Prop) (b : Bool) : Prop := k (.bool b) M
def bneK (ne : Bool) (M : Mem) (k : AV → Mem → Prop) (b : Bool) : Prop := k (.bool (b != ne)) M
def ptK (k : AV → Mem → Prop) (r : Pos × Mem) : Prop := k (.ptr r.1 0) r.2
def slK (l c : Nat) (k : AV → Mem → Prop) (r : Pos × Mem) : Prop := k (.slice r.1 0 l c) r.2
def oslK (l s : Nat) (k : AV → Mem → Prop) (r : Pos × Mem) : Prop := k (.oslice r.1 0 l s) r.2
def unK (k : AV → Mem → Prop) (M : Mem) : Prop := k undefA M
def prK (k : AV → Mem → Prop) (r : AV × Mem) : Prop := k r.1 r.2
def agK (M : Mem) (k : AV → Mem → Prop) (l : List AV) : Prop := k (.agg (AV.ofL l)) M
def lenK (M : Mem) (k : AV → Mem → Prop) (n : Nat) : Prop := k (.int 3 n) M
@[go_sem ↓] theorem valK_app (v : AV) : valK M k v = k v M := _root_.id rfl
@[go_sem ↓] theorem boK_app (b : Bool) : boK M k b = k (.bool b) M := _root_.id rfl
@[go_sem ↓] theorem bneK_app (ne b : Bool) : bneK ne M k b = k (.bool (b != ne)) M := _root_.id rfl
@[go_sem ↓] theorem ptK_app (p : Pos) : ptK k (p, M) = k (.ptr p 0) M := _root_.id rfl
@[go_sem ↓] theorem slK_app (l c : Nat) (p : Pos) : slK l c k (p, M) = k (.slice p 0 l c) M := _root_.id rfl
@[go_sem ↓] theorem oslK_app (l c : Nat) (p : Pos) : oslK l c k (p, M) = k (.oslice p 0 l c) M := _root_.id rfl
@[go_sem ↓] theorem unK_app : unK k M = k undefA M := _root_.id rfl
@[go_sem ↓] theorem prK_app (v : AV) : prK k (v, M) = k v M := _root_.id rfl
@[go_sem ↓] theorem agK_app (l : List AV) : agK M k l = k (.agg (AV.ofL l)) M := _root_.id rfl
@[go_sem ↓] theorem lenK_app (n : Nat) : lenK M k n = k (.int 3 n) M := _root_.id rfl
@[go_sem ↓] theorem inst_mov (x : Opd) : instW tbl (.mov x) ls fr M k kp = opW ls fr x (valK M k) := _root_.id rfl
def pickK (a b : Opd) (ls : AV) (fr : Tr AV) (M : Mem) (k : AV → Mem → Prop) (c : AV) : Prop := boolW c fun c => (c = true → opW ls fr a fun v => k v M) ∧ (c = false → opW ls fr b fun v => k v M)
@[go_sem ↓] theorem inst_pick (c a b : Opd) : instW tbl (.pick c a b) ls fr M k kp = opW ls fr c (pickK a b ls fr M k) := _root_.id rfl
@[go_sem] theorem pickK_t (a b : Opd) : pickK a b ls fr M k (.bool true) = opW ls fr a (valK M k) := by simp [pickK, boolW]; rfl
@[go_sem] theorem pickK_f (a b : Opd) : pickK a b ls fr M k (.bool false) = opW ls fr b (valK M k) := by simp [pickK, boolW]; rfl
def rowO (M : Mem) (v : AV) (n : Nat) : Option (Pos × Mem) := if v.len = n ∧ v.isList = true then M.row v.toL false else none
theorem rowO_W (v : AV) (n : Nat) (f : Pos × Mem → Prop) : (v.len = n ∧ listW v fun cs => someW (M.row cs false) f) = someW (rowO M v n) f := by
 unfold rowO
 rw [someW_if]
 simp [listW, and_assoc]
attribute [go_sem] rowO
@[go_sem ↓] theorem inst_alloc (z : AV) (n : Nat) : instW tbl (.alloc z n) ls fr M k kp = someW (rowO M z n) (ptK k) := rowO_W M z n _
def boxO (M : Mem) (v : AV) : Option (Pos × Mem) := if v.cells.isList = true then M.row v.cells.toL false else none
attribute [go_sem] boxO
def boxK (M : Mem) (k : AV → Mem → Prop) (v : AV) : Prop := someW (boxO M v) (ptK k)
@[go_sem ↓] theorem inst_box (x : Opd) : instW tbl (.box x) ls fr M k kp = opW ls fr x (boxK M k) := by
 show opW ls fr x _ = _
 congr 1
 funext v
 unfold boxK boxO
 rw [someW_if]; rfl
@[go_sem ↓] theorem boxK_app (v : AV) : boxK M k v = someW (boxO M v) (ptK k) := _root_.id rfl
def overO (t : AV) (off size : Nat) (v : AV) : Option AV := if v.cells.len = size ∧ off + size ≤ t.len ∧ v.cells.isList = true then some (AV.app (t.take off) (AV.app v.cells (t.drop (off + size)))) else none
attribute [go_sem] overO
def filK (t : AV) (off size : Nat) (r : Parts) (ls : AV) (fr : Tr AV) (k : AV → Prop) (v : AV) : Prop := someW (overO t off size v) fun t' => fillW ls fr t' r k
def fil2K (r : Parts) (ls : AV) (fr : Tr AV) (k : AV → Prop) (t : AV) : Prop := fillW ls fr t r k
@[go_sem ↓] theorem fillW_nil (t : AV) (k : AV → Prop) : fillW ls fr t .nil k = k t := _root_.id rfl
@[go_sem ↓] theorem fillW_cons (t : AV) (off size : Nat) (x : Opd) (r : Parts) (k : AV → Prop) : fillW ls fr t (.cons off size x r) k = opW ls fr x (filK t off size r ls fr k) := by
 show opW ls fr x _ = _
 congr 1
 funext v
 unfold filK overO
 rw [someW_if]; rfl
@[go_sem ↓] theorem filK_app (t : AV) (off size : Nat) (r : Parts) (k : AV → Prop) (v : AV) : filK t off size r ls fr k v = someW (overO t off size v) (fil2K r ls fr k) := _root_.id rfl
@[go_sem ↓] theorem fil2K_app (r : Parts) (k : AV → Prop) (t : AV) : fil2K r ls fr k t = fillW ls fr t r k := _root_.id rfl
def aggK (M : Mem) (k : AV → Mem → Prop) (t : AV) : Prop := k (.agg t) M
@[go_sem ↓] theorem aggK_app (t : AV) : aggK M k t = k (.agg t) M := _root_.id rfl
@[go_sem ↓] theorem inst_build (z : AV) (ps : Parts) : instW tbl (.build z ps) ls fr M k kp = fillW ls fr z ps (aggK M k) := _root_.id rfl
def bsK (n len : Nat) (M : Mem) (k : AV → Mem → Prop) (v : AV) : Prop := someW (rowO M v n) (slK len len k)
@[go_sem ↓] theorem bsK_app (n len : Nat) (v : AV) : bsK n len M k v = someW (rowO M v n) (slK len len k) := _root_.id rfl
@[go_sem ↓] theorem inst_buildSlice (z : AV) (n len : Nat) (ps : Parts) : instW tbl (.buildSlice z n len ps) ls fr M k kp = fillW ls fr (repl z len) ps (bsK n len M k) := by
 show fillW ls fr _ ps _ = _
 congr 1
 funext v
 exact rowO_W M v n _
attribute [go_sem] AV.take AV.drop repl
def ld1K (M : Mem) (k : AV → Mem → Prop) (v : AV) : Prop := ptrW v fun p o => someW (M.cell p o) (valK M k)
@[go_sem ↓] theorem inst_load1 (a : Opd) : instW tbl (.load1 a) ls fr M k kp = opW ls fr a (ld1K M k) := _root_.id rfl
@[go_sem] theorem ld1K_ptr (p : Pos) (o : Nat) : ld1K M k (.ptr p o) = someW (M.cell p o) (valK M k) := _root_.id rfl
def ldnK (n : Nat) (M : Mem) (k : AV → Mem → Prop) (v : AV) : Prop := ptrW v fun p o => someW (M.cellsAt p o n) (agK M k)
@[go_sem ↓] theorem inst_loadN (n : Nat) (a : Opd) : instW tbl (.loadN n a) ls fr M k kp = opW ls fr a (ldnK n M k) := _root_.id rfl
@[go_sem] theorem ldnK_ptr (n : Nat) (p : Pos) (o : Nat) : ldnK n M k (.ptr p o) = someW (M.cellsAt p o n) (agK M k) := _root_.id rfl
def storeO (M : Mem) (p : Pos) (o n : Nat) (v : AV) : Option Mem := if v.cells.isList = true ∧ v.cells.toL.length = n then M.store p o v.cells.toL else none
attribute [go_sem] storeO
def st2K (n : Nat) (p : Pos) (o : Nat) (M : Mem) (k : AV → Mem → Prop) (v : AV) : Prop := someW (storeO M p o n v) (unK k)
@[go_sem ↓] theorem st2K_app (n : Nat) (p : Pos) (o : Nat) (v : AV) : st2K n p o M k v = someW (storeO M p o n v) (unK k) := _root_.id rfl
def st1K (n : Nat) (x : Opd) (ls : AV) (fr : Tr AV) (M : Mem) (k : AV → Mem → Prop) (v : AV) : Prop := ptrW v fun p o => opW ls fr x (st2K n p o M k)
@[go_sem] theorem st1K_ptr (n : Nat) (x : Opd) (p : Pos) (o : Nat) : st1K n x ls fr M k (.ptr p o) = opW ls fr x (st2K n p o M k) := _root_.id rfl
@[go_sem ↓] theorem inst_store (n : Nat) (a x : Opd) : instW tbl (.store n a x) ls fr M k kp = opW ls fr a (st1K n x ls fr M k) := by
 show opW ls fr a _ = _
 congr 1
 funext v
 unfold st1K
 congr 1
 funext p o
 congr 1
 funext x'
 unfold st2K storeO
 rw [someW_if]
 simp only [listW, and_assoc]; rfl
def nckK (M : Mem) (k : AV → Mem → Prop) (v : AV) : Prop := (match v with | .ptr _ _ => True | .func (.func _) _ _ => True | .iface _ _ => True | _ => False) ∧ k v M
@[go_sem ↓] theorem inst_nilCheck (x : Opd) : instW tbl (.nilCheck x) ls fr M k kp = opW ls fr x (nckK M k) := _root_.id rfl
@[go_sem] theorem nckK_ptr (p : Pos) (o : Nat) : nckK M k (.ptr p o) = k (.ptr p o) M := by simp [nckK]
@[go_sem] theorem nckK_func (f : Nat) (a b : AV) : nckK M k (.func (.func f) a b) = k (.func (.func f) a b) M := by simp [nckK]
@[go_sem] theorem nckK_iface (t : Nat) (v : AV) : nckK M k (.iface t v) = k (.iface t v) M := by simp [nckK]
def ar2K (op : BinOp) (c : Nat) (a : Int) (M : Mem) (k : AV → Mem → Prop) (v : AV) : Prop := intW v fun i b => i = c ∧ someW (arithI op c a b) (valK M k)
def ar1K (op : BinOp) (c : Nat) (y : Opd) (ls : AV) (fr : Tr AV) (M : Mem) (k : AV → Mem → Prop) (v : AV) : Prop := intW v fun j a => opW ls fr y fun y => intW y fun i b => (j = c ∧ i = c) ∧ someW (arithI op c a b) fun v => k v M
@[go_sem ↓] theorem inst_arith (op : BinOp) (c : Nat) (x y : Opd) : instW tbl (.arith op c x y) ls fr M k kp = opW ls fr x (ar1K op c y ls fr M k) := _root_.id rfl
@[go_sem] theorem ar1K_int (op : BinOp) (c : Nat) (y : Opd) (a : Int) : ar1K op c y ls fr M k (.int c a) = opW ls fr y (ar2K op c a M k) := by simp [ar1K, intW]; rfl
@[go_sem] theorem ar2K_int (op : BinOp) (c : Nat) (a b : Int) : ar2K op c a M k (.int c b) = someW (arithI op c a b) (valK M k) := by simp [ar2K, intW]
def sh2K (op : BinOp) (c : Nat) (a : Int) (M : Mem) (k : AV → Mem → Prop) (v : AV) : Prop := intW v fun _ b => someW (shiftI op c a b) (valK M k)
def sh1K (op : BinOp) (c : Nat) (y : Opd) (ls : AV) (fr : Tr AV) (M : Mem) (k : AV → Mem → Prop) (v : AV) : Prop := intW v fun j a => opW ls fr y fun y => intW y fun _ b => j = c ∧ someW (shiftI op c a b) fun v => k v M
@[go_sem ↓] theorem inst_shift (op : BinOp) (c : Nat) (x y : Opd) : instW tbl (.shift op c x y) ls fr M k kp = opW ls fr x (sh1K op c y ls fr M k) := _root_.id rfl
@[go_sem] theorem sh1K_int (op : BinOp) (c : Nat) (y : Opd) (a : Int) : sh1K op c y ls fr M k (.int c a) = opW ls fr y (sh2K op c a M k) := by simp [sh1K, intW]; rfl
@[go_sem] theorem sh2K_int (op : BinOp) (c d : Nat) (a b : Int) : sh2K op c a M k (.int d b) = someW (shiftI op c a b) (valK M k) := by simp [sh2K, intW]
def cm2K (op : BinOp) (c : Nat) (a : Int) (M : Mem) (k : AV → Mem → Prop) (v : AV) : Prop := intW v fun i b => c = i ∧ someW (cmpI op a b) (boK M k)
def cm1K (op : BinOp) (y : Opd) (ls : AV) (fr : Tr AV) (M : Mem) (k : AV → Mem → Prop) (v : AV) : Prop := intW v fun j a => opW ls fr y (cm2K op j a M k)
@[go_sem ↓] theorem inst_cmp (op : BinOp) (x y : Opd) : instW tbl (.cmp op x y) ls fr M k kp = opW ls fr x (cm1K op y ls fr M k) := _root_.id rfl
@[go_sem] theorem cm1K_int (op : BinOp) (c : Nat) (y : Opd) (a : Int) : cm1K op y ls fr M k (.int c a) = opW ls fr y (cm2K op c a M k) := _root_.id rfl
@[go_sem] theorem cm2K_int (op : BinOp) (c : Nat) (a b : Int) : cm2K op c a M k (.int c b) = someW (cmpI op a b) (boK M k) := by simp [cm2K, intW]
def catO (l n l' m : Nat) : Option AV := if l + l' ≤ most then some (.str (l + l') (n + m * 256 ^ l)) else none
def ca2K (l n : Nat) (M : Mem) (k : AV → Mem → Prop) (v : AV) : Prop := strW v fun l' m => someW (catO l n l' m) (valK M k)
def ca1K (y : Opd) (ls : AV) (fr : Tr AV) (M : Mem) (k : AV → Mem → Prop) (v : AV) : Prop := opW ls fr y fun y => strW v fun l n => strW y fun l' m => l + l' ≤ most ∧ k (.str (l + l') (n + m * 256 ^ l)) M
@[go_sem ↓] theorem inst_cat (x y : Opd) : instW tbl (.cat x y) ls fr M k kp = opW ls fr x (ca1K y ls fr M k) := _root_.id rfl
@[go_sem] theorem ca1K_str (y : Opd) (l n : Nat) : ca1K y ls fr M k (.str l n) = opW ls fr y (ca2K l n M k) := by
 show opW ls fr y _ = _
 congr 1
 funext v
 unfold ca2K catO
 simp only [someW_if]; rfl
@[go_sem] theorem ca2K_str (l n l' m : Nat) : ca2K l n M k (.str l' m) = someW (catO l n l' m) (valK M k) := _root_.id rfl
def sc2K (op : BinOp) (l n : Nat) (M : Mem) (k : AV → Mem → Prop) (v : AV) : Prop := strW v fun l' m => someW (cmpS op l n l' m) (boK M k)
def sc1K (op : BinOp) (y : Opd) (ls : AV) (fr : Tr AV) (M : Mem) (k : AV → Mem → Prop) (v : AV) : Prop := opW ls fr y fun y => strW v fun l n => strW y fun l' m => someW (cmpS op l n l' m) (boK M k)
@[go_sem ↓] theorem inst_scmp (op : BinOp) (x y : Opd) : instW tbl (.scmp op x y) ls fr M k kp = opW ls fr x (sc1K op y ls fr M k) := _root_.id rfl
@[go_sem] theorem sc1K_str (op : BinOp) (y : Opd) (l n : Nat) : sc1K op y ls fr M k (.str l n) = opW ls fr y (sc2K op l n M k) := _root_.id rfl
@[go_sem] theorem sc2K_str (op : BinOp) (l n l' m : Nat) : sc2K op l n M k (.str l' m) = someW (cmpS op l n l' m) (boK M k) := _root_.id rfl
def eq2K (e : EK) (ne : Bool) (v : AV) (M : Mem) (k : AV → Mem → Prop) (u : AV) : Prop := someW (eqM M e v u) (bneK ne M k)
def eq1K (e : EK) (ne : Bool) (y : Opd) (ls : AV) (fr : Tr AV) (M : Mem) (k : AV → Mem → Prop) (v : AV) : Prop := opW ls fr y (eq2K e ne v M k)
@[go_sem ↓] theorem inst_eq (e : EK) (ne : Bool) (x y : Opd) : instW tbl (.eq e ne x y) ls fr M k kp = opW ls fr x (eq1K e ne y ls fr M k) := _root_.id rfl
@[go_sem ↓] theorem eq1K_app (e : EK) (ne : Bool) (y : Opd) (v : AV) : eq1K e ne y ls fr M k v = opW ls fr y (eq2K e ne v M k) := _root_.id rfl
@[go_sem ↓] theorem eq2K_app (e : EK) (ne : Bool) (v u : AV) : eq2K e ne v M k u = someW (eqM M e v u) (bneK ne M k) := _root_.id rfl
@[go_sem] theorem eqM_int (c : Nat) (a b : Int) : eqM M (.leaf .int) (.int c a) (.int c b) = some (a == b) := by simp [eqM, eqA, eqLeaf]
@[go_sem] theorem eqM_str (l n l' m : Nat) : eqM M (.leaf .str) (.str l n) (.str l' m) = some (l == l' && n == m) := _root_.id rfl
@[go_sem] theorem eqM_bool (a b : Bool) : eqM M (.leaf .bool) (.bool a) (.bool b) = some (a == b) := _root_.id rfl
@[go_sem] theorem eqM_flat (ks : List LK) (a b : AV) : eqM M (.flat ks) (.agg a) (.agg b) = eqFlat ks a b := _root_.id rfl
@[go_sem] theorem eqFlat_nil' : eqFlat [] .nil .nil = some true := _root_.id rfl
@[go_sem] theorem eqFlat_int' (ks : List LK) (c : Nat) (a b : Int) (r s : AV) : eqFlat (.int :: ks) (.cons (.int c a) r) (.cons (.int c b) s) = andO (a == b) (eqFlat ks r s) := by
 simp only [eqFlat, eqLeaf, if_true]
 cases a == b <;> rfl
@[go_sem] theorem eqFlat_str' (ks : List LK) (l n l' m : Nat) (r s : AV) : eqFlat (.str :: ks) (.cons (.str l n) r) (.cons (.str l' m) s) = andO (l == l' && n == m) (eqFlat ks r s) := by
 simp only [eqFlat, eqLeaf]
 cases (l == l' && n == m) <;> rfl
@[go_sem] theorem eqFlat_bool' (ks : List LK) (a b : Bool) (r s : AV) : eqFlat (.bool :: ks) (.cons (.bool a) r) (.cons (.bool b) s) = andO (a == b) (eqFlat ks r s) := by
 simp only [eqFlat, eqLeaf]
 cases (a == b) <;> rfl
@[go_sem] theorem andO_some (a b : Bool) : andO a (some b) = some (a && b) := by cases a <;> rfl
@[go_sem] theorem eqM_pnn : eqM M .ptr .nilptr .nilptr = some true := _root_.id rfl
@[go_sem] theorem eqM_pnp (p : Pos) (o : Nat) : eqM M .ptr .nilptr (.ptr p o) = some false := _root_.id rfl
@[go_sem] theorem eqM_ppn (p : Pos) (o : Nat) : eqM M .ptr (.ptr p o) .nilptr = some false := _root_.id rfl
@[go_sem] theorem eqM_mnn : eqM M .map .nilmap .nilmap = some true := _root_.id rfl
@[go_sem] theorem eqM_mnm (p : Pos) : eqM M .map .nilmap (.map p) = some false := _root_.id rfl
@[go_sem] theorem eqM_mmn (p : Pos) : eqM M .map (.map p) .nilmap = some false := _root_.id rfl
def ngK (M : Mem) (k : AV → Mem → Prop) (v : AV) : Prop := intW v fun c a => someW (arithI .sub c 0 a) (valK M k)
@[go_sem ↓] theorem inst_neg (x : Opd) : instW tbl (.neg x) ls fr M k kp = opW ls fr x (ngK M k) := _root_.id rfl
@[go_sem] theorem ngK_int (c : Nat) (a : Int) : ngK M k (.int c a) = someW (arithI .sub c 0 a) (valK M k) := _root_.id rfl
def ntK (M : Mem) (k : AV → Mem → Prop) (v : AV) : Prop := boolW v fun b => k (.bool (!b)) M
@[go_sem ↓] theorem inst_not (x : Opd) : instW tbl (.not x) ls fr M k kp = opW ls fr x (ntK M k) := _root_.id rfl
@[go_sem] theorem ntK_bool (b : Bool) : ntK M k (.bool b) = k (.bool (!b)) M := _root_.id rfl
def cvK (c : Nat) (M : Mem) (k : AV → Mem → Prop) (v : AV) : Prop := intW v fun _ a => k (.int c ((kindOf c).wrap a)) M
@[go_sem ↓] theorem inst_convInt (c : Nat) (x : Opd) : instW tbl (.convInt c x) ls fr M k kp = opW ls fr x (cvK c M k) := _root_.id rfl
@[go_sem] theorem cvK_int (c d : Nat) (a : Int) : cvK c M k (.int d a) = k (.int c ((kindOf c).wrap a)) M := _root_.id rfl
def smK (M : Mem) (k : AV → Mem → Prop) (v : AV) : Prop := strW v fun l n => k (.str l n) M
@[go_sem ↓] theorem inst_same (x : Opd) : instW tbl (.same x) ls fr M k kp = opW ls fr x (smK M k) := _root_.id rfl
@[go_sem] theorem smK_str (l n : Nat) : smK M k (.str l n) = k (.str l n) M := _root_.id rfl
def ifK (t : Nat) (M : Mem) (k : AV → Mem → Prop) (v : AV) : Prop := k (.iface t v) M
@[go_sem ↓] theorem inst_mkIface (t : Nat) (x : Opd) : instW tbl (.mkIface t x) ls fr M k kp = opW ls fr x (ifK t M k) := _root_.id rfl
@[go_sem ↓] theorem ifK_app (t : Nat) (v : AV) : ifK t M k v = k (.iface t v) M := _root_.id rfl
def mf2K (fn : Fn) (a : AV) (M : Mem) (k : AV → Mem → Prop) (b : AV) : Prop := k (.func fn a b) M
def mf1K (fn : Fn) (b : Opds) (ls : AV) (fr : Tr AV) (M : Mem) (k : AV → Mem → Prop) (a : AV) : Prop := opsW ls fr b (mf2K fn a M k)
@[go_sem ↓] theorem inst_mkFunc (fn : Fn) (a b : Opds) : instW tbl (.mkFunc fn a b) ls fr M k kp = opsW ls fr a (mf1K fn b ls fr M k) := _root_.id rfl
@[go_sem ↓] theorem mf1K_app (fn : Fn) (b : Opds) (a : AV) : mf1K fn b ls fr M k a = opsW ls fr b (mf2K fn a M k) := _root_.id rfl
@[go_sem ↓] theorem mf2K_app (fn : Fn) (a b : AV) : mf2K fn a M k b = k (.func fn a b) M := _root_.id rfl
@[go_sem ↓] theorem inst_mkMap : instW tbl .mkMap ls fr M k kp = k (.map M.next) (M.new (.map .nil 0)) := _root_.id rfl
def makeO (M : Mem) (z : AV) (size l c : Nat) : Option (Pos × Mem) := if (l ≤ c ∧ c ≤ most ∧ z.len = size) ∧ (repl z c).isList = true then M.row (repl z c).toL false else none
def mk4K (z : AV) (size l : Nat) (M : Mem) (k : AV → Mem → Prop) (c : Nat) : Prop := someW (makeO M z size l c) (slK l c k)
def mk3K (z : AV) (size l : Nat) (M : Mem) (k : AV → Mem → Prop) (v : AV) : Prop := someW (natO v) (mk4K z size l M k)
def mk2K (z : AV) (size : Nat) (cap : Opd) (ls : AV) (fr : Tr AV) (M : Mem) (k : AV → Mem → Prop) (l : Nat) : Prop := opW ls fr cap (mk3K z size l M k)
def mk1K (z : AV) (size : Nat) (cap : Opd) (ls : AV) (fr : Tr AV) (M : Mem) (k : AV → Mem → Prop) (v : AV) : Prop := someW (natO v) (mk2K z size cap ls fr M k)
@[go_sem ↓] theorem inst_makeSlice (z : AV) (size : Nat) (len cap : Opd) : instW tbl (.makeSlice z size len cap) ls fr M k kp = opW ls fr len (mk1K z size cap ls fr M k) := by
 show opW ls fr len _ = _
 congr 1
 funext v
 unfold mk1K
 rw [natW_natO]
 congr 1
 funext l
 unfold mk2K
 congr 1
 funext c
 unfold mk3K
 rw [natW_natO]
 congr 1
 funext c
 unfold mk4K makeO
 rw [someW_if]
 simp only [listW, and_assoc]; rfl
@[go_sem ↓] theorem mk1K_app (z : AV) (size : Nat) (cap : Opd) (v : AV) : mk1K z size cap ls fr M k v = someW (natO v) (mk2K z size cap ls fr M k) := _root_.id rfl
@[go_sem ↓] theorem mk2K_app (z : AV) (size : Nat) (cap : Opd) (l : Nat) : mk2K z size cap ls fr M k l = opW ls fr cap (mk3K z size l M k) := _root_.id rfl
@[go_sem ↓] theorem mk3K_app (z : AV) (size l : Nat) (v : AV) : mk3K z size l M k v = someW (natO v) (mk4K z size l M k) := _root_.id rfl
@[go_sem ↓] theorem mk4K_app (z : AV) (size l c : Nat) : mk4K z size l M k c = someW (makeO M z size l c) (slK l c k) := _root_.id rfl
def subS (len n : Nat) (lo hi : Option Nat) : Option AV := match sliceBounds len len lo hi none with
 | some b => some (.str (b.2.1 - b.1) (n / 256 ^ b.1 % 256 ^ (b.2.1 - b.1)))
 | none => none
def st3K (len n : Nat) (lo : Option Nat) (M : Mem) (k : AV → Mem → Prop) (hi : Option Nat) : Prop := someW (subS len n lo hi) (valK M k)
def st4K (len n : Nat) (hi : Option Opd) (ls : AV) (fr : Tr AV) (M : Mem) (k : AV → Mem → Prop) (lo : Option Nat) : Prop := optW ls fr hi (st3K len n lo M k)
def st5K (lo hi : Option Opd) (ls : AV) (fr : Tr AV) (M : Mem) (k : AV → Mem → Prop) (v : AV) : Prop := strW v fun len n => optW ls fr lo (st4K len n hi ls fr M k)
@[go_sem ↓] theorem inst_sliceStr (x : Opd) (lo hi : Option Opd) : instW tbl (.sliceStr x lo hi) ls fr M k kp = opW ls fr x (st5K lo hi ls fr M k) := by
 show opW ls fr x _ = _
 congr 1
 funext v
 unfold st5K
 congr 1
 funext len n
 congr 1
 funext lo
 unfold st4K
 congr 1
 funext hi
 unfold st3K subS
 cases sliceBounds len len lo hi none <;> rfl
@[go_sem] theorem st5K_str (lo hi : Option Opd) (len n : Nat) : st5K lo hi ls fr M k (.str len n) = optW ls fr lo (st4K len n hi ls fr M k) := _root_.id rfl
@[go_sem ↓] theorem st4K_app (len n : Nat) (hi : Option Opd) (lo : Option Nat) : st4K len n hi ls fr M k lo = optW ls fr hi (st3K len n lo M k) := _root_.id rfl
@[go_sem ↓] theorem st3K_app (len n : Nat) (lo hi : Option Nat) : st3K len n lo M k hi = someW (subS len n lo hi) (valK M k) := _root_.id rfl
def ss4K (size : Nat) (lo hi mx : Option Nat) (M : Mem) (k : AV → Mem → Prop) (v : AV) : Prop := someW (sliceM M size lo hi mx v) (valK M k)
def ss3K (size : Nat) (x : Opd) (lo hi : Option Nat) (ls : AV) (fr : Tr AV) (M : Mem) (k : AV → Mem → Prop) (mx : Option Nat) : Prop := opW ls fr x (ss4K size lo hi mx M k)
def ss2K (size : Nat) (x : Opd) (mx : Option Opd) (lo : Option Nat) (ls : AV) (fr : Tr AV) (M : Mem) (k : AV → Mem → Prop) (hi : Option Nat) : Prop := optW ls fr mx (ss3K size x lo hi ls fr M k)
def ss1K (size : Nat) (x : Opd) (hi mx : Option Opd) (ls : AV) (fr : Tr AV) (M : Mem) (k : AV → Mem → Prop) (lo : Option Nat) : Prop := optW ls fr hi (ss2K size x mx lo ls fr M k)
@[go_sem ↓] theorem inst_sliceSl (size : Nat) (x : Opd) (lo hi mx : Option Opd) : instW tbl (.sliceSl size x lo hi mx) ls fr M k kp = optW ls fr lo (ss1K size x hi mx ls fr M k) := _root_.id rfl
@[go_sem ↓] theorem ss1K_app (size : Nat) (x : Opd) (hi mx : Option Opd) (lo : Option Nat) : ss1K size x hi mx ls fr M k lo = optW ls fr hi (ss2K size x mx lo ls fr M k) := _root_.id rfl
@[go_sem ↓] theorem ss2K_app (size : Nat) (x : Opd) (mx : Option Opd) (lo hi : Option Nat) : ss2K size x mx lo ls fr M k hi = optW ls fr mx (ss3K size x lo hi ls fr M k) := _root_.id rfl
@[go_sem ↓] theorem ss3K_app (size : Nat) (x : Opd) (lo hi mx : Option Nat) : ss3K size x lo hi ls fr M k mx = opW ls fr x (ss4K size lo hi mx M k) := _root_.id rfl
@[go_sem ↓] theorem ss4K_app (size : Nat) (lo hi mx : Option Nat) (v : AV) : ss4K size lo hi mx M k v = someW (sliceM M size lo hi mx v) (valK M k) := _root_.id rfl
def faK (off : Nat) (M : Mem) (k : AV → Mem → Prop) (v : AV) : Prop := ptrW v fun p o => k (.ptr p (o + off)) M
@[go_sem ↓] theorem inst_fieldAddr (off : Nat) (x : Opd) : instW tbl (.fieldAddr off x) ls fr M k kp = opW ls fr x (faK off M k) := _root_.id rfl
@[go_sem] theorem faK_ptr (off : Nat) (p : Pos) (o : Nat) : faK off M k (.ptr p o) = k (.ptr p (o + off)) M := _root_.id rfl
def f1K (off : Nat) (M : Mem) (k : AV → Mem → Prop) (v : AV) : Prop := aggW v fun cs => someW (cs.nth off) (valK M k)
@[go_sem ↓] theorem inst_field1 (off : Nat) (x : Opd) : instW tbl (.field1 off x) ls fr M k kp = opW ls fr x (f1K off M k) := _root_.id rfl
@[go_sem] theorem f1K_agg (off : Nat) (cs : AV) : f1K off M k (.agg cs) = someW (cs.nth off) (valK M k) := _root_.id rfl
def subA (cs : AV) (off n : Nat) : Option AV := if off + n ≤ cs.len then some (.agg ((cs.drop off).take n)) else none
attribute [go_sem] subA
def fnK (off n : Nat) (M : Mem) (k : AV → Mem → Prop) (v : AV) : Prop := aggW v fun cs => someW (subA cs off n) (valK M k)
@[go_sem ↓] theorem inst_fieldN (off n : Nat) (x : Opd) : instW tbl (.fieldN off n x) ls fr M k kp = opW ls fr x (fnK off n M k) := by
 show opW ls fr x _ = _
 congr 1
 funext v
 unfold fnK
 congr 1
 funext cs
 unfold subA
 rw [someW_if]; rfl
@[go_sem] theorem fnK_agg (off n : Nat) (cs : AV) : fnK off n M k (.agg cs) = someW (subA cs off n) (valK M k) := _root_.id rfl
def idxIn (s : Option (Pos × Nat × Nat)) (size i : Nat) : Option AV := match s with
 | some (p, o, n) => if i < n then some (.ptr p (o + i * size)) else none
 | none => none
@[go_sem] theorem idxIn_some (p : Pos) (o n size i : Nat) : idxIn (some (p, o, n)) size i = if i < n then some (.ptr p (o + i * size)) else none := _root_.id rfl
def ix3K (size i : Nat) (M : Mem) (k : AV → Mem → Prop) (s : AV) : Prop := someW (idxIn (slAt s) size i) (valK M k)
def ix2K (size : Nat) (x : Opd) (ls : AV) (fr : Tr AV) (M : Mem) (k : AV → Mem → Prop) (i : Nat) : Prop := opW ls fr x (ix3K size i M k)
def ix1K (size : Nat) (x : Opd) (ls : AV) (fr : Tr AV) (M : Mem) (k : AV → Mem → Prop) (v : AV) : Prop := someW (natO v) (ix2K size x ls fr M k)
@[go_sem ↓] theorem inst_idxSl (size : Nat) (x i : Opd) : instW tbl (.idxSl size x i) ls fr M k kp = opW ls fr i (ix1K size x ls fr M k) := by
 show opW ls fr i _ = _
 congr 1
 funext v
 unfold ix1K
 rw [natW_natO]
 congr 1
 funext i
 unfold ix2K
 congr 1
 funext s
 unfold ix3K
 cases slAt s with
 | none => rfl
 | some s => obtain ⟨p, o, n⟩ := s; simp only [idxIn, someW_if]; rfl
@[go_sem ↓] theorem ix1K_app (size : Nat) (x : Opd) (v : AV) : ix1K size x ls fr M k v = someW (natO v) (ix2K size x ls fr M k) := _root_.id rfl
@[go_sem ↓] theorem ix2K_app (size : Nat) (x : Opd) (i : Nat) : ix2K size x ls fr M k i = opW ls fr x (ix3K size i M k) := _root_.id rfl
@[go_sem ↓] theorem ix3K_app (size i : Nat) (s : AV) : ix3K size i M k s = someW (idxIn (slAt s) size i) (valK M k) := _root_.id rfl
def arrO (p : Pos) (o n size i : Nat) : Option AV := if i < n then some (.ptr p (o + i * size)) else none
attribute [go_sem] arrO
def ia3K (size n i : Nat) (M : Mem) (k : AV → Mem → Prop) (s : AV) : Prop := ptrW s fun p o => someW (arrO p o n size i) (valK M k)
def ia2K (size n : Nat) (x : Opd) (ls : AV) (fr : Tr AV) (M : Mem) (k : AV → Mem → Prop) (i : Nat) : Prop := opW ls fr x (ia3K size n i M k)
def ia1K (size n : Nat) (x : Opd) (ls : AV) (fr : Tr AV) (M : Mem) (k : AV → Mem → Prop) (v : AV) : Prop := someW (natO v) (ia2K size n x ls fr M k)
@[go_sem ↓] theorem inst_idxArr (size n : Nat) (x i : Opd) : instW tbl (.idxArr size n x i) ls fr M k kp = opW ls fr i (ia1K size n x ls fr M k) := by
 show opW ls fr i _ = _
 congr 1
 funext v
 unfold ia1K
 rw [natW_natO]
 congr 1
 funext i
 unfold ia2K
 congr 1
 funext s
 unfold ia3K
 congr 1
 funext p o
 unfold arrO
 rw [someW_if]; rfl
@[go_sem ↓] theorem ia1K_app (size n : Nat) (x : Opd) (v : AV) : ia1K size n x ls fr M k v = someW (natO v) (ia2K size n x ls fr M k) := _root_.id rfl
@[go_sem ↓] theorem ia2K_app (size n : Nat) (x : Opd) (i : Nat) : ia2K size n x ls fr M k i = opW ls fr x (ia3K size n i M k) := _root_.id rfl
@[go_sem] theorem ia3K_ptr (size n i : Nat) (p : Pos) (o : Nat) : ia3K size n i M k (.ptr p o) = someW (arrO p o n size i) (valK M k) := _root_.id rfl
def agO (cs : AV) (n i : Nat) : Option AV := if i < n then cs.nth i else none
attribute [go_sem] agO
def ig3K (n i : Nat) (M : Mem) (k : AV → Mem → Prop) (s : AV) : Prop := aggW s fun cs => someW (agO cs n i) (valK M k)
def ig2K (n : Nat) (x : Opd) (ls : AV) (fr : Tr AV) (M : Mem) (k : AV → Mem → Prop) (i : Nat) : Prop := opW ls fr x (ig3K n i M k)
def ig1K (n : Nat) (x : Opd) (ls : AV) (fr : Tr AV) (M : Mem) (k : AV → Mem → Prop) (v : AV) : Prop := someW (natO v) (ig2K n x ls fr M k)
@[go_sem ↓] theorem inst_idxAgg1 (n : Nat) (x i : Opd) : instW tbl (.idxAgg1 n x i) ls fr M k kp = opW ls fr i (ig1K n x ls fr M k) := by
 show opW ls fr i _ = _
 congr 1
 funext v
 unfold ig1K
 rw [natW_natO]
 congr 1
 funext i
 unfold ig2K
 congr 1
 funext s
 unfold ig3K
 congr 1
 funext cs
 unfold agO
 rw [someW_if]; rfl
@[go_sem ↓] theorem ig1K_app (n : Nat) (x : Opd) (v : AV) : ig1K n x ls fr M k v = someW (natO v) (ig2K n x ls fr M k) := _root_.id rfl
@[go_sem ↓] theorem ig2K_app (n : Nat) (x : Opd) (i : Nat) : ig2K n x ls fr M k i = opW ls fr x (ig3K n i M k) := _root_.id rfl
@[go_sem] theorem ig3K_agg (n i : Nat) (cs : AV) : ig3K n i M k (.agg cs) = someW (agO cs n i) (valK M k) := _root_.id rfl
def byO (len n i : Nat) : Option AV := if i < len then some (.int 4 (byteAt n i)) else none
attribute [go_sem] byO
def is3K (i : Nat) (M : Mem) (k : AV → Mem → Prop) (s : AV) : Prop := strW s fun len n => someW (byO len n i) (valK M k)
def is2K (x : Opd) (ls : AV) (fr : Tr AV) (M : Mem) (k : AV → Mem → Prop) (i : Nat) : Prop := opW ls fr x (is3K i M k)
def is1K (x : Opd) (ls : AV) (fr : Tr AV) (M : Mem) (k : AV → Mem → Prop) (v : AV) : Prop := someW (natO v) (is2K x ls fr M k)
@[go_sem ↓] theorem inst_idxStr (x i : Opd) : instW tbl (.idxStr x i) ls fr M k kp = opW ls fr i (is1K x ls fr M k) := by
 show opW ls fr i _ = _
 congr 1
 funext v
 unfold is1K
 rw [natW_natO]
 congr 1
 funext i
 unfold is2K
 congr 1
 funext s
 unfold is3K
 congr 1
 funext len n
 unfold byO
 rw [someW_if]; rfl
@[go_sem ↓] theorem is1K_app (x : Opd) (v : AV) : is1K x ls fr M k v = someW (natO v) (is2K x ls fr M k) := _root_.id rfl
@[go_sem ↓] theorem is2K_app (x : Opd) (i : Nat) : is2K x ls fr M k i = opW ls fr x (is3K i M k) := _root_.id rfl
@[go_sem] theorem is3K_str (i len n : Nat) : is3K i M k (.str len n) = someW (byO len n i) (valK M k) := _root_.id rfl
def lookO (M : Mem) (e : EK) (key mv : AV) : Option (Option AV) := if okKey e key = true then mapLookM M e key mv else none
attribute [go_sem] lookO
def lk3K (z : AV) (ok : Bool) (M : Mem) (k : AV → Mem → Prop) (r : Option AV) : Prop := k (lookRes z ok r) M
def lk2K (e : EK) (z : AV) (ok : Bool) (key : AV) (M : Mem) (k : AV → Mem → Prop) (mv : AV) : Prop := someW (lookO M e key mv) (lk3K z ok M k)
def lk1K (e : EK) (z : AV) (ok : Bool) (m : Opd) (ls : AV) (fr : Tr AV) (M : Mem) (k : AV → Mem → Prop) (key : AV) : Prop := opW ls fr m (lk2K e z ok key M k)
@[go_sem ↓] theorem inst_lookup (e : EK) (z : AV) (ok : Bool) (m x : Opd) : instW tbl (.lookup e z ok m x) ls fr M k kp = opW ls fr x (lk1K e z ok m ls fr M k) := by
 show opW ls fr x _ = _
 congr 1
 funext key
 unfold lk1K
 congr 1
 funext mv
 unfold lk2K lookO
 rw [someW_if]; rfl
@[go_sem ↓] theorem lk1K_app (e : EK) (z : AV) (ok : Bool) (m : Opd) (key : AV) : lk1K e z ok m ls fr M k key = opW ls fr m (lk2K e z ok key M k) := _root_.id rfl
@[go_sem ↓] theorem lk2K_app (e : EK) (z : AV) (ok : Bool) (key mv : AV) : lk2K e z ok key M k mv = someW (lookO M e key mv) (lk3K z ok M k) := _root_.id rfl
@[go_sem ↓] theorem lk3K_app (z : AV) (ok : Bool) (r : Option AV) : lk3K z ok M k r = k (lookRes z ok r) M := _root_.id rfl
def updO (M : Mem) (e : EK) (key v mv : AV) : Option Mem := if okKey e key = true then mapPutM M e key v mv else none
attribute [go_sem] updO
def up3K (e : EK) (key v : AV) (M : Mem) (k : AV → Mem → Prop) (mv : AV) : Prop := someW (updO M e key v mv) (unK k)
def up2K (e : EK) (m : Opd) (key : AV) (ls : AV) (fr : Tr AV) (M : Mem) (k : AV → Mem → Prop) (v : AV) : Prop := opW ls fr m (up3K e key v M k)
def up1K (e : EK) (m v : Opd) (ls : AV) (fr : Tr AV) (M : Mem) (k : AV → Mem → Prop) (key : AV) : Prop := opW ls fr v (up2K e m key ls fr M k)
@[go_sem ↓] theorem inst_update (e : EK) (m x v : Opd) : instW tbl (.update e m x v) ls fr M k kp = opW ls fr x (up1K e m v ls fr M k) := by
 show opW ls fr x _ = _
 congr 1
 funext key
 unfold up1K
 congr 1
 funext v
 unfold up2K
 congr 1
 funext mv
 unfold up3K updO
 rw [someW_if]; rfl
@[go_sem ↓] theorem up1K_app (e : EK) (m v : Opd) (key : AV) : up1K e m v ls fr M k key = opW ls fr v (up2K e m key ls fr M k) := _root_.id rfl
@[go_sem ↓] theorem up2K_app (e : EK) (m : Opd) (key v : AV) : up2K e m key ls fr M k v = opW ls fr m (up3K e key v M k) := _root_.id rfl
@[go_sem ↓] theorem up3K_app (e : EK) (key v mv : AV) : up3K e key v M k mv = someW (updO M e key v mv) (unK k) := _root_.id rfl
def delO (M : Mem) (e : EK) (key mv : AV) : Option Mem := if okKey e key = true then mapDelM M e key mv else none
attribute [go_sem] delO
def dl2K (e : EK) (key : AV) (M : Mem) (k : AV → Mem → Prop) (mv : AV) : Prop := someW (delO M e key mv) (unK k)
def dl1K (e : EK) (m : Opd) (ls : AV) (fr : Tr AV) (M : Mem) (k : AV → Mem → Prop) (key : AV) : Prop := opW ls fr m (dl2K e key M k)
@[go_sem ↓] theorem inst_delete (e : EK) (m x : Opd) : instW tbl (.delete e m x) ls fr M k kp = opW ls fr x (dl1K e m ls fr M k) := by
 show opW ls fr x _ = _
 congr 1
 funext key
 unfold dl1K
 congr 1
 funext mv
 unfold dl2K delO
 rw [someW_if]; rfl
@[go_sem ↓] theorem dl1K_app (e : EK) (m : Opd) (key : AV) : dl1K e m ls fr M k key = opW ls fr m (dl2K e key M k) := _root_.id rfl
@[go_sem ↓] theorem dl2K_app (e : EK) (key mv : AV) : dl2K e key M k mv = someW (delO M e key mv) (unK k) := _root_.id rfl
def asK (t : Nat) (z : AV) (ok : Bool) (M : Mem) (k : AV → Mem → Prop) (x : AV) : Prop := match x with
 | .niliface => ok = true ∧ k (.tuple (.cons z (.cons (.bool false) .nil))) M
 | .iface u v => (u = t → k (if ok then .tuple (.cons v (.cons (.bool true) .nil)) else v) M) ∧ (u ≠ t → ok = true ∧ k (.tuple (.cons z (.cons (.bool false) .nil))) M)
 | _ => False
@[go_sem ↓] theorem inst_assert (t : Nat) (z : AV) (ok : Bool) (x : Opd) : instW tbl (.assert t z ok x) ls fr M k kp = opW ls fr x (asK t z ok M k) := _root_.id rfl
@[go_sem] theorem asK_same (t : Nat) (z v : AV) : asK t z true M k (.iface t v) = k (.tuple (.cons v (.cons (.bool true) .nil))) M := by simp [asK]
@[go_sem] theorem asK_one (t : Nat) (z v : AV) : asK t z false M k (.iface t v) = k v M := by simp [asK]
@[go_sem] theorem asK_nil (t : Nat) (z : AV) : asK t z true M k .niliface = k (.tuple (.cons z (.cons (.bool false) .nil))) M := by simp [asK]
def exK (j : Nat) (M : Mem) (k : AV → Mem → Prop) (v : AV) : Prop := tupW v fun vs => someW (vs.nth j) (valK M k)
@[go_sem ↓] theorem inst_extract (j : Nat) (x : Opd) : instW tbl (.extract j x) ls fr M k kp = opW ls fr x (exK j M k) := _root_.id rfl
@[go_sem] theorem exK_tup (j : Nat) (vs : AV) : exK j M k (.tuple vs) = someW (vs.nth j) (valK M k) := _root_.id rfl
def appO (M : Mem) (size : Nat) (v u : AV) : Option (AV × Mem) := (lenOf u).bind fun n => (srcM M size n u).bind fun new => appendM M size n new v
theorem someW_bind {α β : Type} (o : Option α) (f : α → Option β) (k : β → Prop) : someW (o.bind f) k = someW o fun a => someW (f a) k := by cases o <;> rfl
def ap2K (size : Nat) (v : AV) (M : Mem) (k : AV → Mem → Prop) (u : AV) : Prop := someW (appO M size v u) (prK k)
def ap1K (size : Nat) (y : Opd) (ls : AV) (fr : Tr AV) (M : Mem) (k : AV → Mem → Prop) (v : AV) : Prop := opW ls fr y (ap2K size v M k)
@[go_sem ↓] theorem inst_append (z : AV) (size : Nat) (x y : Opd) : instW tbl (.append z size x y) ls fr M k kp = opW ls fr x (ap1K size y ls fr M k) := by
 show opW ls fr x _ = _
 congr 1
 funext v
 unfold ap1K
 congr 1
 funext u
 unfold ap2K appO
 simp only [someW_bind]; rfl
@[go_sem ↓] theorem ap1K_app (size : Nat) (y : Opd) (v : AV) : ap1K size y ls fr M k v = opW ls fr y (ap2K size v M k) := _root_.id rfl
@[go_sem ↓] theorem ap2K_app (size : Nat) (v u : AV) : ap2K size v M k u = someW (appO M size v u) (prK k) := _root_.id rfl
def az2K (z : AV) (size : Nat) (x : Opd) (ls : AV) (fr : Tr AV) (M : Mem) (k : AV → Mem → Prop) (n : Nat) : Prop := (n ≤ most ∧ z.len = size) ∧ opW ls fr x fun x => listW (repl z n) fun new => someW (appendM M size n new x) fun r => k r.1 r.2
def az1K (z : AV) (size : Nat) (x : Opd) (ls : AV) (fr : Tr AV) (M : Mem) (k : AV → Mem → Prop) (v : AV) : Prop := someW (natO v) (az2K z size x ls fr M k)
@[go_sem ↓] theorem inst_appendZ (z : AV) (size : Nat) (x y : Opd) : instW tbl (.appendZ z size x y) ls fr M k kp = opW ls fr y (az1K z size x ls fr M k) := by
 show opW ls fr y _ = _
 congr 1
 funext v
 unfold az1K
 rw [natW_natO]
 rfl
@[go_sem ↓] theorem az1K_app (z : AV) (size : Nat) (x : Opd) (v : AV) : az1K z size x ls fr M k v = someW (natO v) (az2K z size x ls fr M k) := _root_.id rfl
def clrO (M : Mem) (z : AV) (size : Nat) (v : AV) : Option Mem := (lenOf v).bind fun n => if z.len = size ∧ (repl z n).isList = true then putAtM M v (repl z n).toL else none
def clK (z : AV) (size : Nat) (M : Mem) (k : AV → Mem → Prop) (v : AV) : Prop := someW (clrO M z size v) (unK k)
@[go_sem ↓] theorem inst_clear (z : AV) (size : Nat) (x : Opd) : instW tbl (.clear z size x) ls fr M k kp = opW ls fr x (clK z size M k) := by
 show opW ls fr x _ = _
 congr 1
 funext v
 unfold clK clrO
 rw [someW_bind]
 congr 1
 funext n
 rw [someW_if]
 simp only [listW, and_assoc]; rfl
@[go_sem ↓] theorem clK_app (z : AV) (size : Nat) (v : AV) : clK z size M k v = someW (clrO M z size v) (unK k) := _root_.id rfl
def lsK (M : Mem) (k : AV → Mem → Prop) (v : AV) : Prop := strW v fun l _ => k (.int 3 l) M
@[go_sem ↓] theorem inst_lenStr (x : Opd) : instW tbl (.lenStr x) ls fr M k kp = opW ls fr x (lsK M k) := _root_.id rfl
@[go_sem] theorem lsK_str (l n : Nat) : lsK M k (.str l n) = k (.int 3 l) M := _root_.id rfl
def llK (M : Mem) (k : AV → Mem → Prop) (v : AV) : Prop := someW (slLen v) (lenK M k)
@[go_sem ↓] theorem inst_lenSl (x : Opd) : instW tbl (.lenSl x) ls fr M k kp = opW ls fr x (llK M k) := _root_.id rfl
@[go_sem ↓] theorem llK_app (v : AV) : llK M k v = someW (slLen v) (lenK M k) := _root_.id rfl
def mapLenO (M : Mem) (v : AV) : Option Nat := match v with
 | .nilmap => some 0
 | .map p => (match M.get p with | some (.map es _) => some es.size | _ => none)
 | _ => none
def lmK (M : Mem) (k : AV → Mem → Prop) (v : AV) : Prop := someW (mapLenO M v) (lenK M k)
@[go_sem ↓] theorem inst_lenMap (x : Opd) : instW tbl (.lenMap x) ls fr M k kp = opW ls fr x (lmK M k) := by
 show opW ls fr x _ = _
 congr 1
 funext v
 unfold lmK mapLenO
 cases v <;> first | rfl | skip
 rename_i p
 simp only
 cases M.get p with
 | none => rfl
 | some b => cases b <;> rfl
@[go_sem ↓] theorem lmK_app (v : AV) : lmK M k v = someW (mapLenO M v) (lenK M k) := _root_.id rfl
def capO (v : AV) : Option Nat := match v with
 | .nilslice => some 0
 | .slice _ _ _ c => some c
 | _ => none
def cpK (M : Mem) (k : AV → Mem → Prop) (v : AV) : Prop := someW (capO v) (lenK M k)
@[go_sem ↓] theorem inst_capSl (x : Opd) : instW tbl (.capSl x) ls fr M k kp = opW ls fr x (cpK M k) := by
 show opW ls fr x _ = _
 congr 1
 funext v
 cases v <;> rfl
@[go_sem ↓] theorem cpK_app (v : AV) : cpK M k v = someW (capO v) (lenK M k) := _root_.id rfl
@[go_sem] theorem capO_nil : capO .nilslice = some 0 := _root_.id rfl
@[go_sem] theorem capO_slice (p : Pos) (o n c : Nat) : capO (.slice p o n c) = some c := _root_.id rfl
@[go_sem ↓] theorem inst_lit (v : AV) : instW tbl (.lit v) ls fr M k kp = k v M := _root_.id rfl
def copyO (M : Mem) (size : Nat) (dst src : AV) : Option (AV × Mem) := (lenOf src).bind fun n => (lenOf dst).bind fun m => (srcM M size (Nat.min n m) src).bind fun cs => (putAtM M dst cs).map fun M' => (.int 3 (Nat.min n m), M')
def co2K (size : Nat) (dst : AV) (M : Mem) (k : AV → Mem → Prop) (src : AV) : Prop := someW (copyO M size dst src) (prK k)
def co1K (size : Nat) (y : Opd) (ls : AV) (fr : Tr AV) (M : Mem) (k : AV → Mem → Prop) (dst : AV) : Prop := opW ls fr y (co2K size dst M k)
@[go_sem ↓] theorem inst_copy (size : Nat) (x y : Opd) : instW tbl (.copy size x y) ls fr M k kp = opW ls fr x (co1K size y ls fr M k) := by
 show opW ls fr x _ = _
 congr 1
 funext dst
 unfold co1K
 congr 1
 funext src
 unfold co2K copyO
 simp only [someW_bind]
 congr 1
 funext n
 congr 1
 funext m
 congr 1
 funext cs
 cases putAtM M dst cs <;> rfl
@[go_sem ↓] theorem co1K_app (size : Nat) (y : Opd) (dst : AV) : co1K size y ls fr M k dst = opW ls fr y (co2K size dst M k) := _root_.id rfl
@[go_sem ↓] theorem co2K_app (size : Nat) (dst src : AV) : co2K size dst M k src = someW (copyO M size dst src) (prK k) := _root_.id rfl
def mn2K (c : Nat) (a : Int) (M : Mem) (k : AV → Mem → Prop) (v : AV) : Prop := intW v fun _ b => k (.int c (if b < a then b else a)) M
def mn1K (y : Opd) (ls : AV) (fr : Tr AV) (M : Mem) (k : AV → Mem → Prop) (v : AV) : Prop := intW v fun c a => opW ls fr y (mn2K c a M k)
@[go_sem ↓] theorem inst_min (x y : Opd) : instW tbl (.min x y) ls fr M k kp = opW ls fr x (mn1K y ls fr M k) := _root_.id rfl
@[go_sem] theorem mn1K_int (y : Opd) (c : Nat) (a : Int) : mn1K y ls fr M k (.int c a) = opW ls fr y (mn2K c a M k) := _root_.id rfl
@[go_sem] theorem mn2K_int (c d : Nat) (a b : Int) : mn2K c a M k (.int d b) = k (.int c (if b < a then b else a)) M := _root_.id rfl
def mx2K (c : Nat) (a : Int) (M : Mem) (k : AV → Mem → Prop) (v : AV) : Prop := intW v fun _ b => k (.int c (if b > a then b else a)) M
def mx1K (y : Opd) (ls : AV) (fr : Tr AV) (M : Mem) (k : AV → Mem → Prop) (v : AV) : Prop := intW v fun c a => opW ls fr y (mx2K c a M k)
@[go_sem ↓] theorem inst_max (x y : Opd) : instW tbl (.max x y) ls fr M k kp = opW ls fr x (mx1K y ls fr M k) := _root_.id rfl
@[go_sem] theorem mx1K_int (y : Opd) (c : Nat) (a : Int) : mx1K y ls fr M k (.int c a) = opW ls fr y (mx2K c a M k) := _root_.id rfl
@[go_sem] theorem mx2K_int (c d : Nat) (a b : Int) : mx2K c a M k (.int d b) = k (.int c (if b > a then b else a)) M := _root_.id rfl
def caK (tbl : Nat → Option CFunc) (f : Nat) (M : Mem) (k kp : AV → Mem → Prop) (as : AV) : Prop := CallW tbl f as M (retK k kp)
@[go_sem ↓] theorem inst_callF (f : Nat) (args : Opds) : instW tbl (.callF f args) ls fr M k kp = opsW ls fr args (caK tbl f M k kp) := _root_.id rfl
@[go_sem ↓] theorem caK_app (f : Nat) (as : AV) : caK tbl f M k kp as = CallW tbl f as M (retK k kp) := _root_.id rfl
def cv2K (tbl : Nat → Option CFunc) (f : Nat) (a b : AV) (M : Mem) (k kp : AV → Mem → Prop) (as : AV) : Prop := CallW tbl f (a.app (as.app b)) M (retK k kp)
def cv1K (tbl : Nat → Option CFunc) (args : Opds) (ls : AV) (fr : Tr AV) (M : Mem) (k kp : AV → Mem → Prop) (gv : AV) : Prop := calleeW gv fun f a b => opsW ls fr args (cv2K tbl f a b M k kp)
@[go_sem ↓] theorem inst_callV (g : Opd) (args : Opds) : instW tbl (.callV g args) ls fr M k kp = opW ls fr g (cv1K tbl args ls fr M k kp) := _root_.id rfl
@[go_sem] theorem cv1K_func (args : Opds) (f : Nat) (a b : AV) : cv1K tbl args ls fr M k kp (.func (.func f) a b) = opsW ls fr args (cv2K tbl f a b M k kp) := _root_.id rfl
@[go_sem ↓] theorem cv2K_app (f : Nat) (a b as : AV) : cv2K tbl f a b M k kp as = CallW tbl f (a.app (as.app b)) M (retK k kp) := _root_.id rfl
def pnK (kp : AV → Mem → Prop) (M : Mem) (v : AV) : Prop := match v with | .iface t u => kp (.iface t u) M | _ => False
@[go_sem ↓] theorem inst_panic (x : Opd) : instW tbl (.panic x) ls fr M k kp = opW ls fr x (pnK kp M) := _root_.id rfl
@[go_sem] theorem pnK_iface (t : Nat) (u : AV) : pnK kp M (.iface t u) = kp (.iface t u) M := _root_.id rfl
def isK (r : CIs) (ls : AV) (fr : Tr AV) (dst : Option Pos) (Q : Ex → Tr AV → Mem → Prop) (v : AV) (M : Mem) : Prop := CIs.wp tbl r (.cons v ls) (setDst fr dst v) M Q
def panK (Q : Ex → Tr AV → Mem → Prop) (fr : Tr AV) (v : AV) (M : Mem) : Prop := Q (.pan v) fr M
variable (Q : Ex → Tr AV → Mem → Prop) (ci : CI) (dst : Option Pos) (r : CIs)
@[go_sem ↓] theorem is_nil : CIs.wp tbl .nil ls fr M Q = Q .normal fr M := _root_.id rfl
@[go_sem ↓] theorem is_cons : CIs.wp tbl (.cons none ci dst r) ls fr M Q = instW tbl ci ls fr M (isK tbl r ls fr dst Q) (panK Q fr) := _root_.id rfl
def gdK (b : Bool) (ci : CI) (dst : Option Pos) (r : CIs) (ls : AV) (fr : Tr AV) (M : Mem) (Q : Ex → Tr AV → Mem → Prop) (v : AV) : Prop := match v with
 | .bool c => (c = b → instW tbl ci ls fr M (isK tbl r ls fr dst Q) (panK Q fr)) ∧ (c ≠ b → isK tbl r ls fr dst Q undefA M)
 | .tuple .nil => isK tbl r ls fr dst Q undefA M
 | _ => False
@[go_sem ↓] theorem is_guard (j : Nat) (b : Bool) : CIs.wp tbl (.cons (some (j, b)) ci dst r) ls fr M Q = someW (ls.nth j) (gdK tbl b ci dst r ls fr M Q) := by
 show guardW ls (some (j, b)) _ _ = _
 unfold guardW
 simp only
 cases ls.nth j with
 | none => rfl
 | some v => cases v with
  | tuple v => cases v <;> rfl
  | _ => rfl
@[go_sem] theorem gdK_undef (b : Bool) : gdK tbl b ci dst r ls fr M Q undefA = isK tbl r ls fr dst Q undefA M := _root_.id rfl
@[go_sem] theorem gdK_tt : gdK tbl true ci dst r ls fr M Q (.bool true) = instW tbl ci ls fr M (isK tbl r ls fr dst Q) (panK Q fr) := by simp [gdK]
@[go_sem] theorem gdK_tf : gdK tbl true ci dst r ls fr M Q (.bool false) = isK tbl r ls fr dst Q undefA M := by simp [gdK]
@[go_sem] theorem gdK_ft : gdK tbl false ci dst r ls fr M Q (.bool true) = isK tbl r ls fr dst Q undefA M := by simp [gdK]
@[go_sem] theorem gdK_ff : gdK tbl false ci dst r ls fr M Q (.bool false) = instW tbl ci ls fr M (isK tbl r ls fr dst Q) (panK Q fr) := by simp [gdK]
@[go_sem ↓] theorem isK_none (v : AV) : isK tbl r ls fr none Q v M = CIs.wp tbl r (.cons v ls) fr M Q := _root_.id rfl
@[go_sem ↓] theorem isK_slot (v : AV) (p : Pos) : isK tbl r ls fr (some p) Q v M = CIs.wp tbl r (.cons v ls) (Tr.set p v fr) M Q := _root_.id rfl
@[go_sem] theorem panK_app (v : AV) : panK Q fr v M = Q (.pan v) fr M := _root_.id rfl
attribute [go_sem] Tr.set
@[go_sem ↓] theorem retK_ret (v : AV) : retK k kp (.ret v) M = k v M := _root_.id rfl
@[go_sem ↓] theorem retK_pan (v : AV) : retK k kp (.pan v) M = kp v M := _root_.id rfl
def seqK (b : CCode) (Q : Ex → Tr AV → Mem → Prop) : Ex → Tr AV → Mem → Prop := fun e fr M => match e with
 | .normal => b.wp tbl fr M Q
 | e => Q e fr M
def blockK (id : Nat) (Q : Ex → Tr AV → Mem → Prop) : Ex → Tr AV → Mem → Prop := fun e fr M => Q (atBlock id e) fr M
def loopK (I : Tr AV → Mem → Prop) (Q : Ex → Tr AV → Mem → Prop) : Ex → Tr AV → Mem → Prop := fun e fr M => match e with
 | .normal => I fr M
 | e => Q e fr M
variable (a b c : CCode)
def cdK (a b : CCode) (fr : Tr AV) (M : Mem) (Q : Ex → Tr AV → Mem → Prop) (v : AV) : Prop := boolW v fun v => (v = true → a.wp tbl fr M Q) ∧ (v = false → b.wp tbl fr M Q)
@[go_sem ↓] theorem wp_skip : CCode.skip.wp tbl fr M Q = Q .normal fr M := _root_.id rfl
@[go_sem ↓] theorem wp_region (cs : CIs) : (CCode.region cs).wp tbl fr M Q = CIs.wp tbl cs .nil fr M Q := _root_.id rfl
@[go_sem ↓] theorem wp_seq : (CCode.seq a b).wp tbl fr M Q = a.wp tbl fr M (seqK tbl b Q) := _root_.id rfl
@[go_sem ↓] theorem wp_cond (x : Opd) : (CCode.cond x a b).wp tbl fr M Q = opW .nil fr x (cdK tbl a b fr M Q) := _root_.id rfl
@[go_sem] theorem cdK_t : cdK tbl a b fr M Q (.bool true) = a.wp tbl fr M Q := by simp [cdK, boolW]
@[go_sem] theorem cdK_f : cdK tbl a b fr M Q (.bool false) = b.wp tbl fr M Q := by simp [cdK, boolW]
@[go_sem ↓] theorem wp_block (id : Nat) : (CCode.block id c).wp tbl fr M Q = c.wp tbl fr M (blockK id Q) := _root_.id rfl
@[go_sem ↓] theorem wp_exit (id : Nat) : (CCode.exit id).wp tbl fr M Q = Q (.exit id) fr M := _root_.id rfl
@[go_sem ↓] theorem wp_ret : CCode.ret.wp tbl fr M Q = Q .ret fr M := _root_.id rfl
@[go_sem ↓] theorem seqK_normal : seqK tbl b Q .normal fr M = b.wp tbl fr M Q := _root_.id rfl
@[go_sem ↓] theorem seqK_exit (i : Nat) : seqK tbl b Q (.exit i) fr M = Q (.exit i) fr M := _root_.id rfl
@[go_sem ↓] theorem seqK_ret : seqK tbl b Q .ret fr M = Q .ret fr M := _root_.id rfl
@[go_sem ↓] theorem seqK_pan (v : AV) : seqK tbl b Q (.pan v) fr M = Q (.pan v) fr M := _root_.id rfl
@[go_sem ↓] theorem blockK_normal (id : Nat) : blockK id Q .normal fr M = Q .normal fr M := _root_.id rfl
@[go_sem ↓] theorem blockK_exit (id i : Nat) : blockK id Q (.exit i) fr M = Q (atBlock id (.exit i)) fr M := _root_.id rfl
@[go_sem] theorem atBlock_exit (id i : Nat) : atBlock id (.exit i) = if i = id then .normal else .exit i := _root_.id rfl
@[go_sem ↓] theorem blockK_ret (id : Nat) : blockK id Q .ret fr M = Q .ret fr M := _root_.id rfl
@[go_sem ↓] theorem blockK_pan (id : Nat) (v : AV) : blockK id Q (.pan v) fr M = Q (.pan v) fr M := _root_.id rfl
@[go_sem ↓] theorem loopK_normal (I : Tr AV → Mem → Prop) : loopK I Q .normal fr M = I fr M := _root_.id rfl
@[go_sem ↓] theorem loopK_exit (I : Tr AV → Mem → Prop) (i : Nat) : loopK I Q (.exit i) fr M = Q (.exit i) fr M := _root_.id rfl
@[go_sem ↓] theorem loopK_ret (I : Tr AV → Mem → Prop) : loopK I Q .ret fr M = Q .ret fr M := _root_.id rfl
@[go_sem ↓] theorem loopK_pan (I : Tr AV → Mem → Prop) (v : AV) : loopK I Q (.pan v) fr M = Q (.pan v) fr M := _root_.id rfl
def res1K (rs : List CRes) (fr : Tr AV) (M : Mem) (k : AV → Prop) (v : AV) : Prop := resW fr M rs fun vs => k (.cons v vs)
def res2K (rs : List CRes) (fr : Tr AV) (M : Mem) (k : AV → Prop) (l : List AV) : Prop := resW fr M rs fun vs => k (.cons (.agg (AV.ofL l)) vs)
def rc1K (rs : List CRes) (fr : Tr AV) (M : Mem) (k : AV → Prop) (v : AV) : Prop := ptrW v fun q off => someW (M.cell q off) (res1K rs fr M k)
def rcnK (n : Nat) (rs : List CRes) (fr : Tr AV) (M : Mem) (k : AV → Prop) (v : AV) : Prop := ptrW v fun q off => someW (M.cellsAt q off n) (res2K rs fr M k)
def reK (Q : CR → Mem → Prop) (M : Mem) (vs : AV) : Prop := Q (.ret (resOne vs)) M
@[go_sem ↓] theorem finW_normal (rs : List CRes) (Q : CR → Mem → Prop) : finW rs Q .normal fr M = resW fr M rs (reK Q M) := _root_.id rfl
@[go_sem ↓] theorem finW_ret (rs : List CRes) (Q : CR → Mem → Prop) : finW rs Q .ret fr M = resW fr M rs (reK Q M) := _root_.id rfl
@[go_sem ↓] theorem finW_pan (rs : List CRes) (Q : CR → Mem → Prop) (v : AV) : finW rs Q (.pan v) fr M = Q (.pan v) M := _root_.id rfl
@[go_sem ↓] theorem resW_nil (k : AV → Prop) : resW fr M [] k = k .nil := _root_.id rfl
@[go_sem ↓] theorem resW_tmp (p : Pos) (rs : List CRes) (k : AV → Prop) : resW fr M (.tmp p :: rs) k = someW (fr.get p) (res1K rs fr M k) := _root_.id rfl
@[go_sem ↓] theorem resW_cell1 (p : Pos) (rs : List CRes) (k : AV → Prop) : resW fr M (.cell1 p :: rs) k = someW (fr.get p) (rc1K rs fr M k) := _root_.id rfl
@[go_sem ↓] theorem resW_cellN (p : Pos) (n : Nat) (rs : List CRes) (k : AV → Prop) : resW fr M (.cellN p n :: rs) k = someW (fr.get p) (rcnK n rs fr M k) := _root_.id rfl
@[go_sem ↓] theorem res1K_app (rs : List CRes) (k : AV → Prop) (v : AV) : res1K rs fr M k v = resW fr M rs (ops2K v k) := _root_.id rfl
@[go_sem ↓] theorem res2K_app (rs : List CRes) (k : AV → Prop) (l : List AV) : res2K rs fr M k l = resW fr M rs (ops2K (.agg (AV.ofL l)) k) := _root_.id rfl
@[go_sem] theorem rc1K_ptr (rs : List CRes) (k : AV → Prop) (q : Pos) (o : Nat) : rc1K rs fr M k (.ptr q o) = someW (M.cell q o) (res1K rs fr M k) := _root_.id rfl
@[go_sem] theorem rcnK_ptr (n : Nat) (rs : List CRes) (k : AV → Prop) (q : Pos) (o : Nat) : rcnK n rs fr M k (.ptr q o) = someW (M.cellsAt q o n) (res2K rs fr M k) := _root_.id rfl
@[go_sem ↓] theorem reK_app (Q : CR → Mem → Prop) (vs : AV) : reK Q M vs = Q (.ret (resOne vs)) M := _root_.id rfl
@[go_sem] theorem resOne_one (v : AV) : resOne (.cons v .nil) = v := _root_.id rfl
@[go_sem] theorem resOne_two (v u w : AV) : resOne (.cons v (.cons u w)) = .tuple (.cons v (.cons u w)) := _root_.id rfl
@[go_sem] theorem resOne_nil : resOne .nil = .tuple .nil := _root_.id rfl
def dK (r : DIs) (R : List Pos) (Ms : List Mem) (ls : AV) (fr : Tr AV) (dst : Option Pos) (Q : Ex → Tr AV → Mem → Prop) (v : AV) (M : Mem) : Prop := DIs.wp tbl r R Ms (.cons v ls) (setDst fr dst v) M Q
def lightK (ci : CI) (bk : Nat) (r : DIs) (R : List Pos) (Ms : List Mem) (ls : AV) (fr : Tr AV) (dst : Option Pos) (M : Mem) (Q : Ex → Tr AV → Mem → Prop) (v : AV) (_ : Mem) : Prop :=
 (if ci.free then bk ≤ Ms.length else backW ci ls fr v bk Ms) ∧ DIs.wp tbl r R Ms (.cons v ls) (setDst fr dst v) M Q
def noK (_ : AV) (_ : Mem) : Prop := False
variable (d : DIs) (R : List Pos) (Ms : List Mem)
@[go_sem ↓] theorem wp_draw (nf : Nat) : (CCode.draw d nf).wp tbl fr M Q = DIs.wp tbl d (Mem.reserve nf M).1 [] .nil fr (Mem.reserve nf M).2 Q := _root_.id rfl
@[go_sem ↓] theorem ds_nil : DIs.wp tbl .nil R Ms ls fr M Q = Q .normal fr M := _root_.id rfl
@[go_sem ↓] theorem ds_heavy : DIs.wp tbl (.cons none ci dst .heavy d) R Ms ls fr M Q = instW tbl ci ls fr M (dK tbl d R (M :: Ms) ls fr dst Q) noK := _root_.id rfl
def hgK (b : Bool) (ci : CI) (dst : Option Pos) (d : DIs) (R : List Pos) (Ms : List Mem) (ls : AV) (fr : Tr AV) (M : Mem) (Q : Ex → Tr AV → Mem → Prop) (v : AV) : Prop := match v with
 | .bool c => (c = b → instW tbl ci ls fr M (dK tbl d R (M :: Ms) ls fr dst Q) noK) ∧ (c ≠ b → dK tbl d R (M :: Ms) ls fr dst Q undefA M)
 | .tuple .nil => dK tbl d R (M :: Ms) ls fr dst Q undefA M
 | _ => False
@[go_sem ↓] theorem ds_heavyG (j : Nat) (b : Bool) : DIs.wp tbl (.cons (some (j, b)) ci dst .heavy d) R Ms ls fr M Q = someW (ls.nth j) (hgK tbl b ci dst d R Ms ls fr M Q) := by
 show guardW ls (some (j, b)) _ _ = _
 unfold guardW
 simp only
 cases ls.nth j with
 | none => rfl
 | some v => cases v with
  | tuple v => cases v <;> rfl
  | _ => rfl
@[go_sem] theorem hgK_undef (b : Bool) : hgK tbl b ci dst d R Ms ls fr M Q undefA = dK tbl d R (M :: Ms) ls fr dst Q undefA M := _root_.id rfl
@[go_sem] theorem hgK_tt : hgK tbl true ci dst d R Ms ls fr M Q (.bool true) = instW tbl ci ls fr M (dK tbl d R (M :: Ms) ls fr dst Q) noK := by simp [hgK]
@[go_sem] theorem hgK_tf : hgK tbl true ci dst d R Ms ls fr M Q (.bool false) = dK tbl d R (M :: Ms) ls fr dst Q undefA M := by simp [hgK]
@[go_sem] theorem hgK_ft : hgK tbl false ci dst d R Ms ls fr M Q (.bool true) = dK tbl d R (M :: Ms) ls fr dst Q undefA M := by simp [hgK]
@[go_sem] theorem hgK_ff : hgK tbl false ci dst d R Ms ls fr M Q (.bool false) = instW tbl ci ls fr M (dK tbl d R (M :: Ms) ls fr dst Q) noK := by simp [hgK]
@[go_sem ↓] theorem dK_none (v : AV) : dK tbl d R Ms ls fr none Q v M = DIs.wp tbl d R Ms (.cons v ls) fr M Q := _root_.id rfl
@[go_sem ↓] theorem dK_slot (v : AV) (p : Pos) : dK tbl d R Ms ls fr (some p) Q v M = DIs.wp tbl d R Ms (.cons v ls) (Tr.set p v fr) M Q := _root_.id rfl
def CI.still : CI → Bool
 | .callF .. | .callV .. | .panic _ => false
 | _ => true
theorem instW_still {ci : CI} (h : ci.still = true) : instW tbl ci ls fr M k kp = ci.wp ls fr M k := by cases ci <;> first | rfl | cases h
def stW (still : Bool) (ci : CI) (bk : Nat) (d : DIs) (R : List Pos) (Ms : List Mem) (ls : AV) (fr : Tr AV) (dst : Option Pos) (M : Mem) (Q : Ex → Tr AV → Mem → Prop) : Prop :=
 if still then instW tbl ci ls fr M (lightK tbl ci bk d R Ms ls fr dst M Q) noK else DIs.wp tbl (.cons none ci dst (.light bk) d) R Ms ls fr M Q
@[go_sem ↓] theorem ds_light (bk : Nat) : DIs.wp tbl (.cons none ci dst (.light bk) d) R Ms ls fr M Q = stW tbl ci.still ci bk d R Ms ls fr dst M Q := by
 unfold stW
 cases h : ci.still with
 | true => simp only [if_true]; rw [instW_still _ _ _ _ _ _ h]; rfl
 | false => rfl
@[go_sem] theorem stW_true (bk : Nat) : stW tbl true ci bk d R Ms ls fr dst M Q = instW tbl ci ls fr M (lightK tbl ci bk d R Ms ls fr dst M Q) noK := _root_.id rfl
def lgK (b : Bool) (ci : CI) (dst : Option Pos) (bk : Nat) (d : DIs) (R : List Pos) (Ms : List Mem) (ls : AV) (fr : Tr AV) (M : Mem) (Q : Ex → Tr AV → Mem → Prop) (v : AV) : Prop := match v with
 | .bool c => (c = b → DIs.wp tbl (.cons none ci dst (.light bk) d) R Ms ls fr M Q) ∧ (c ≠ b → dK tbl d R Ms ls fr dst Q undefA M)
 | .tuple .nil => dK tbl d R Ms ls fr dst Q undefA M
 | _ => False
@[go_sem ↓] theorem ds_lightG (j : Nat) (b : Bool) (bk : Nat) : DIs.wp tbl (.cons (some (j, b)) ci dst (.light bk) d) R Ms ls fr M Q = someW (ls.nth j) (lgK tbl b ci dst bk d R Ms ls fr M Q) := by
 show guardW ls (some (j, b)) _ _ = _
 unfold guardW
 simp only
 cases ls.nth j with
 | none => rfl
 | some v => cases v with
  | tuple v => cases v <;> rfl
  | _ => rfl
@[go_sem] theorem lgK_undef (bk : Nat) (b : Bool) : lgK tbl b ci dst bk d R Ms ls fr M Q undefA = dK tbl d R Ms ls fr dst Q undefA M := _root_.id rfl
@[go_sem] theorem lgK_tt (bk : Nat) : lgK tbl true ci dst bk d R Ms ls fr M Q (.bool true) = DIs.wp tbl (.cons none ci dst (.light bk) d) R Ms ls fr M Q := by simp [lgK]
@[go_sem] theorem lgK_tf (bk : Nat) : lgK tbl true ci dst bk d R Ms ls fr M Q (.bool false) = dK tbl d R Ms ls fr dst Q undefA M := by simp [lgK]
@[go_sem] theorem lgK_ft (bk : Nat) : lgK tbl false ci dst bk d R Ms ls fr M Q (.bool true) = dK tbl d R Ms ls fr dst Q undefA M := by simp [lgK]
@[go_sem] theorem lgK_ff (bk : Nat) : lgK tbl false ci dst bk d R Ms ls fr M Q (.bool false) = DIs.wp tbl (.cons none ci dst (.light bk) d) R Ms ls fr M Q := by simp [lgK]
def bkW (free : Bool) (ci : CI) (bk : Nat) (d : DIs) (R : List Pos) (Ms : List Mem) (ls : AV) (fr : Tr AV) (dst : Option Pos) (M : Mem) (Q : Ex → Tr AV → Mem → Prop) (v : AV) : Prop :=
 (if free then bk ≤ Ms.length else backW ci ls fr v bk Ms) ∧ DIs.wp tbl d R Ms (.cons v ls) (setDst fr dst v) M Q
@[go_sem ↓] theorem lightK_app (bk : Nat) (v : AV) (M' : Mem) : lightK tbl ci bk d R Ms ls fr dst M Q v M' = bkW tbl ci.free ci bk d R Ms ls fr dst M Q v := _root_.id rfl
@[go_sem] theorem bkW_zero (f : Bool) (v : AV) : bkW tbl f ci 0 d R Ms ls fr dst M Q v = dK tbl d R Ms ls fr dst Q v M := by cases f <;> simp [bkW, backW, dK]
@[go_sem] theorem bkW_free (bk : Nat) (v : AV) (h : bk ≤ Ms.length) : bkW tbl true ci bk d R Ms ls fr dst M Q v = dK tbl d R Ms ls fr dst Q v M := by simp [bkW, h, dK]
@[go_sem] theorem bkW_back (bk : Nat) (v : AV) (h : backW ci ls fr v bk Ms) : bkW tbl false ci bk d R Ms ls fr dst M Q v = dK tbl d R Ms ls fr dst Q v M := by simp [bkW, h, dK]
attribute [go_sem] CI.still CI.free Mem.reserve Nat.zero_le
def eqvK (v : AV) (u : AV) (_ : Mem) : Prop := AV.beq u v = true
@[go_sem ↓] theorem eqvK_app (v u : AV) : eqvK v u M = (AV.beq u v = true) := _root_.id rfl
@[go_sem ↓] theorem backW_zero (v : AV) : backW ci ls fr v 0 Ms = True := _root_.id rfl
def bsW (still : Bool) (ci : CI) (ls : AV) (fr : Tr AV) (v : AV) (n : Nat) (M : Mem) (Ms : List Mem) : Prop :=
 if still then (instW tbl ci ls fr M (eqvK v) noK ∧ backW ci ls fr v n Ms) else backW ci ls fr v (n + 1) (M :: Ms)
theorem backW_succ (v : AV) (n : Nat) (M : Mem) (Ms : List Mem) : backW ci ls fr v (n + 1) (M :: Ms) = bsW tbl ci.still ci ls fr v n M Ms := by
 unfold bsW
 cases h : ci.still with
 | true => simp only [if_true]; rw [instW_still _ _ _ _ _ _ h]; rfl
 | false => rfl
@[go_sem] theorem bsW_true (v : AV) (n : Nat) (M : Mem) (Ms : List Mem) : bsW tbl true ci ls fr v n M Ms = (instW tbl ci ls fr M (eqvK v) noK ∧ backW ci ls fr v n Ms) := _root_.id rfl
attribute [go_sem] AV.beq_refl
end
abbrev invK (I : Nat → Tr AV → Mem → Prop) (n : Nat) (fr : Tr AV) (M : Mem) : Prop := ∃ m, m < n ∧ I m fr M
theorem loop_wp {tbl : Nat → Option CFunc} {fr : Tr AV} {M : Mem} {Q : Ex → Tr AV → Mem → Prop} {c : CCode} (I : Nat → Tr AV → Mem → Prop) (n : Nat) (h0 : I n fr M) (h : ∀ n fr M, I n fr M → c.wp tbl fr M (loopK (invK I n) Q)) : (CCode.loop c).wp tbl fr M Q := by
 refine ⟨I, ⟨n, h0⟩, fun n fr M hI => ?_⟩
 have := h n fr M hI
 have e : loopK (invK I n) Q = fun e fr' M' => match e with
  | .normal => ∃ m, m < n ∧ I m fr' M'
  | e => Q e fr' M' := by
  funext e fr M
  cases e <;> rfl
 rw [e] at this
 exact this
section
variable (a b : Int)
@[go_sem] theorem arith_add : arithI .add 3 a b = some (.int 3 (IntKind.i64.wrap (a + b))) := _root_.id rfl
@[go_sem] theorem arith_sub : arithI .sub 3 a b = some (.int 3 (IntKind.i64.wrap (a - b))) := _root_.id rfl
@[go_sem] theorem arith_mul : arithI .mul 3 a b = some (.int 3 (IntKind.i64.wrap (a * b))) := _root_.id rfl
@[go_sem] theorem cmp_eql : cmpI .eql a b = some (a == b) := _root_.id rfl
@[go_sem] theorem cmp_neq : cmpI .neq a b = some (a != b) := _root_.id rfl
@[go_sem] theorem cmp_lss : cmpI .lss a b = some (decide (a < b)) := _root_.id rfl
@[go_sem] theorem cmp_leq : cmpI .leq a b = some (decide (a ≤ b)) := _root_.id rfl
@[go_sem] theorem cmp_gtr : cmpI .gtr a b = some (decide (b < a)) := _root_.id rfl
@[go_sem] theorem cmp_geq : cmpI .geq a b = some (decide (b ≤ a)) := _root_.id rfl
end
@[go_sem] theorem isCell_b (b : Bool) : isCell (.bool b) = true := _root_.id rfl
@[go_sem] theorem isCell_i (c : Nat) (n : Int) : isCell (.int c n) = true := _root_.id rfl
@[go_sem] theorem isCell_s (l n : Nat) : isCell (.str l n) = true := _root_.id rfl
@[go_sem] theorem isCell_p (p : Pos) (o : Nat) : isCell (.ptr p o) = true := _root_.id rfl
@[go_sem] theorem isCell_np  : isCell .nilptr = true := _root_.id rfl
@[go_sem] theorem isCell_sl (p : Pos) (a b c : Nat) : isCell (.slice p a b c) = true := _root_.id rfl
@[go_sem] theorem isCell_os (p : Pos) (a b c : Nat) : isCell (.oslice p a b c) = true := _root_.id rfl
@[go_sem] theorem isCell_ns  : isCell .nilslice = true := _root_.id rfl
@[go_sem] theorem isCell_m (p : Pos) : isCell (.map p) = true := _root_.id rfl
@[go_sem] theorem isCell_nm  : isCell .nilmap = true := _root_.id rfl
@[go_sem] theorem isCell_f (f : Fn) (a b : AV) : isCell (.func f a b) = true := _root_.id rfl
@[go_sem] theorem isCell_nf  : isCell .nilfunc = true := _root_.id rfl
@[go_sem] theorem isCell_ifc (t : Nat) (v : AV) : isCell (.iface t v) = true := _root_.id rfl
@[go_sem] theorem isCell_ni  : isCell .niliface = true := _root_.id rfl
@[go_sem] theorem cmpS_eql (l n k m : Nat) : cmpS .eql l n k m = some (l == k && n == m) := rfl
@[go_sem] theorem cmpS_neq (l n k m : Nat) : cmpS .neq l n k m = some (!(l == k && n == m)) := rfl
section
variable {tbl : Nat → Option CFunc}
theorem CallW.wf {f : Nat} {as : AV} {M : Mem} {Q : CR → Mem → Prop} (h : M.wf → CallW tbl f as M Q) : CallW tbl f as M Q := fun H hs => h hs.wf H hs
theorem CallW.use {f : Nat} {as : AV} {M : Mem} {Q Q' : CR → Mem → Prop} (h : CallW tbl f as M Q) (hq : ∀ r M', M'.wf → Q r M' → Q' r M') : CallW tbl f as M Q' :=
 fun H hs => let ⟨n, r, H', M', a, b, c⟩ := h H hs; ⟨n, r, H', M', a, b, hq _ _ b.wf c⟩
end
end Go.Dx
