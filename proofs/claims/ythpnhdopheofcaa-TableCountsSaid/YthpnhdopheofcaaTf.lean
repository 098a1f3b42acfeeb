import Derived.Test.YthpnhdopheofcaaDxWk
import Derived.Test.YthpnhdopheofcaaTt
import Derived.Test.YthpnhdopheofcaaDxCut
import Derived.Test.YthpnhdopheofcaaDxCpy
set_option linter.unusedSimpArgs false
set_option linter.unusedVariables false
section
namespace Go.Proofs.Ythpnhdopheofcaa
open Go.Dx
variable {tbl : Nat → Option CFunc}
theorem index_none0 (h : tbl 145 = some cf145) {g : Nat} {M : Mem} {sv : AV} {l : List Vl} (hs : SlIs M sv 2 (VlL l)) (hl : l.length < 2 ^ 62) (hcall : ∀ v ∈ l, ∀ M', M'.wf → But (fun _ => False) M M' → CallW tbl g (.cons (VlA v) .nil) M' fun r M'' => r = .ret (.bool false) ∧ But (fun _ => False) M' M'') :
  CallW tbl 145 (.cons sv (.cons (.func (.func g) .nil .nil) .nil)) M fun r M' => r = .ret (.int 3 (-1)) ∧ But (fun _ => False) M M' := by
 refine CallW.wf fun hw => ?_
 refine CallW.intro h rfl (fr := .nod (.val .leaf sv .leaf) (.val .leaf (.func (.func g) .nil .nil) .leaf)) rfl ?_
 have hlen := hs.len
 rw [vlL_len] at hlen
 simp only [go_sem, cf145, hlen]
 refine loop_wp (I := fun n fr M' => n ≤ l.length ∧ M'.wf ∧ But (fun _ => False) M M' ∧ fr.get (.o .h) = some sv ∧ fr.get (.i .h) = some (.func (.func g) .nil .nil) ∧ fr.get (.i (.o (.o .h))) = some (.int 3 l.length) ∧ fr.get (.o (.i (.o .h))) = some (.int 3 ((l.length - n : Nat) : Int))) (n := l.length) ?_ ?_
 ·exact ⟨Nat.le_refl _, hw, But.refl _ _, rfl, rfl, rfl, by rw [Nat.sub_self]; rfl⟩
 ·rintro n fr M' ⟨i1, i2, i3, f1, f2, f3, f4⟩
  cases n with
  | zero =>
   have g1 : decide (((l.length - 0 : Nat) : Int) < (l.length : Int)) = false := by simp only [decide_eq_false_iff_not]; omega
   simp only [go_sem, f1, f2, f3, f4, g1]
   exact i3
  | succ n =>
   have g1 : decide (((l.length - (n + 1) : Nat) : Int) < (l.length : Int)) = true := by simp only [decide_eq_true_eq]; omega
   have hi : l.length - (n + 1) < l.length := by omega
   obtain ⟨p, po, a1, a2⟩ := (hs.old i3.old).at_ (i := l.length - (n + 1)) (by rw [vlL_len]; exact hi)
   rw [vlL_len] at a1
   have a3 : (VlL l)[l.length - (n + 1)]? = some (VlR l[l.length - (n + 1)]) := by simp [VlL, hi]
   rw [a3] at a2
   simp only [VlR] at a2
   simp only [go_sem, f1, f2, f3, f4, g1, a1, a2, hi]
   refine (hcall l[l.length - (n + 1)] (List.getElem_mem hi) M' i2 i3).use ?_
   rintro r M2 hw2 ⟨rfl, b2⟩
   have e1 : IntKind.i64.wrap (((l.length - (n + 1) : Nat) : Int) + 1) = ((l.length - n : Nat) : Int) := by rw [wrap64 (by omega) (by omega)]; omega
   simp only [go_sem, f1, f2, f3, f4, e1]
   exact ⟨n, by omega, by omega, hw2, i3.trans b2, by simp [Tr.get_set, f1], by simp [Tr.get_set, f2], by simp [Tr.get_set, f3], by rw [Tr.get_set]; rfl⟩
theorem contains_none0 (h : tbl 121 = some cf121) (h1 : tbl 145 = some cf145) {g : Nat} {M : Mem} {sv : AV} {l : List Vl} (hs : SlIs M sv 2 (VlL l)) (hl : l.length < 2 ^ 62) (hcall : ∀ v ∈ l, ∀ M', M'.wf → But (fun _ => False) M M' → CallW tbl g (.cons (VlA v) .nil) M' fun r M'' => r = .ret (.bool false) ∧ But (fun _ => False) M' M'') :
  CallW tbl 121 (.cons sv (.cons (.func (.func g) .nil .nil) .nil)) M fun r M' => r = .ret (.bool false) ∧ But (fun _ => False) M M' := by
 refine CallW.intro h rfl (fr := .nod (.val .leaf sv .leaf) (.val .leaf (.func (.func g) .nil .nil) .leaf)) rfl ?_
 simp only [go_sem, cf121]
 refine (index_none0 h1 hs hl hcall).use ?_
 rintro r M1 hw1 ⟨rfl, b1⟩
 have g1 : decide ((0 : Int) ≤ -1) = false := rfl
 simp only [go_sem, g1]
 first | exact b1 | exact ⟨rfl, b1⟩
def placedV (v : Vl) (n : Int) : Bool := decide (v.k = 3) && (decide (1 ≤ v.n) && decide (v.n ≤ n))
theorem placed_spec (h : tbl 128 = some cf128) {M : Mem} (v : Vl) (n : Int) : CallW tbl 128 (.cons (VlA v) (.cons (.int 3 n) .nil)) M fun r M' => r = .ret (.bool (placedV v n)) ∧ But (fun _ => False) M M' := by
 refine CallW.wf fun hw => ?_
 obtain ⟨vk, vn⟩ := v
 refine CallW.intro h rfl (fr := .nod (.val .leaf (VlA ⟨vk, vn⟩) .leaf) (.val .leaf (.int 3 n) .leaf)) rfl ?_
 have b1 := But.new (S := fun _ => False) hw (.cells [.int 3 vk, .int 3 vn] false)
 by_cases hk : vk = 3
 ·have g1 : (vk == 3) = true := by simp [hk]
  by_cases h1 : 1 ≤ vn
  ·have g2 : decide (1 ≤ vn) = true := by simp [h1]
   simp only [go_sem, cf128, VlA, g1, g2]
   first | exact ⟨by simp [placedV, hk, h1], b1⟩ | exact b1
  ·have g2 : decide (1 ≤ vn) = false := by simp [h1]
   simp only [go_sem, cf128, VlA, g1, g2]
   first | exact ⟨by simp [placedV, hk, h1], b1⟩ | exact b1
 ·have g1 : (vk == 3) = false := by simp [hk]
  simp only [go_sem, cf128, VlA, g1]
  first | exact ⟨by simp [placedV, hk], b1⟩ | exact b1
def nullV (v : Vl) : Bool := decide (v = ⟨1, 0⟩)
theorem null_spec' (h : tbl 129 = some cf129) {M : Mem} (v : Vl) : CallW tbl 129 (.cons (VlA v) .nil) M fun r M' => r = .ret (.bool (nullV v)) ∧ But (fun _ => False) M M' := by
 refine CallW.wf fun hw => ?_
 obtain ⟨vk, vn⟩ := v
 refine CallW.intro h rfl (fr := .nod (.val .leaf (VlA ⟨vk, vn⟩) .leaf) .leaf) rfl ?_
 have b1 := But.new (S := fun _ => False) hw (.cells [.int 3 vk, .int 3 vn] false)
 have e : (((vk == 1) && (vn == 0)) != false) = nullV ⟨vk, vn⟩ := by
  simp only [nullV, Vl.mk.injEq]
  by_cases h1 : vk = 1 <;> by_cases h2 : vn = 0 <;> simp [h1, h2]
 simp only [go_sem, cf129, VlA, e]
 first | exact b1 | exact ⟨rfl, b1⟩
theorem bad_spec (h : tbl 146 = some cf146) (h117 : tbl 117 = some cf117) (h143 : tbl 143 = some cf143) {M : Mem} {v : Vl} (hm : mayV v = true) (hk : v.k ≠ 0) : CallW tbl 146 (.cons (VlA v) .nil) M fun r M' => r = .ret (.bool false) ∧ But (fun _ => False) M M' := by
 refine CallW.wf fun hw => ?_
 obtain ⟨vk, vn⟩ := v
 refine CallW.intro h rfl (fr := .nod (.val .leaf (VlA ⟨vk, vn⟩) .leaf) .leaf) rfl ?_
 have b1 := But.new (S := fun _ => False) hw (.cells [.int 3 vk, .int 3 vn] false)
 have x1 : (M.new (.cells [.int 3 vk, .int 3 vn] false)).get M.next = some (.cells [.int 3 vk, .int 3 vn] false) := by simp only [go_sem]
 simp only [go_sem, cf146, VlA]
 refine (may_spec h117 h143 (v := ⟨vk, vn⟩)).use ?_
 rintro r M1 hw1 ⟨rfl, b2⟩
 have x2 := b2.get _ _ id x1
 have g : (vk == 0) = false := by simpa using hk
 simp only [go_sem, hm, x2, g]
 first | exact b1.trans b2 | exact ⟨rfl, b1.trans b2⟩
end Go.Proofs.Ythpnhdopheofcaa
end
section
namespace Go.Proofs.Ythpnhdopheofcaa
open Go.Dx
variable {tbl : Nat → Option CFunc}
theorem key_spec (h : tbl 125 = some cf125) (h117 : tbl 117 = some cf117) (h143 : tbl 143 = some cf143) {M : Mem} (v : Vl) : CallW tbl 125 (.cons (VlA v) .nil) M fun r M' => r = .ret (.bool (keyV v)) ∧ But (fun _ => False) M M' := by
 refine CallW.wf fun hw => ?_
 obtain ⟨vk, vn⟩ := v
 refine CallW.intro h rfl (fr := .nod (.val .leaf (VlA ⟨vk, vn⟩) .leaf) .leaf) rfl ?_
 have b1 := But.new (S := fun _ => False) hw (.cells [.int 3 vk, .int 3 vn] false)
 by_cases hk : 1 < vk
 ·have g1 : decide (1 < vk) = true := by simp [hk]
  simp only [go_sem, cf125, VlA, g1]
  refine (may_spec h117 h143 (v := ⟨vk, vn⟩)).use ?_
  rintro r M1 hw1 ⟨rfl, b2⟩
  simp only [go_sem]
  exact ⟨by simp [keyV, hk], b1.trans b2⟩
 ·have g1 : decide (1 < vk) = false := by simp [hk]
  simp only [go_sem, cf125, VlA, g1]
  first | exact ⟨by simp [keyV, hk], b1⟩ | exact b1
theorem goodVl : GoodK (.flat [.int, .int]) (fun a => ∃ v, a = VlA v) where
 same := by rintro a ⟨⟨k, n⟩, rfl⟩; simp [eqKey, VlA, eqFlat, eqLeaf]
 other := by
  rintro a b ⟨⟨k, n⟩, rfl⟩ ⟨⟨k', n'⟩, rfl⟩ hne
  have : ¬ (k = k' ∧ n = n') := fun ⟨e1, e2⟩ => hne (by rw [e1, e2])
  by_cases e : k = k'
  ·have e' : n ≠ n' := fun h => this ⟨e, h⟩
   have q : (n == n') = false := by simpa using e'
   have q0 : (k == k') = true := by simpa using e
   simp only [eqKey, VlA, eqFlat, eqLeaf, q, q0, if_true]
  ·have q : (k == k') = false := by simpa using e
   simp only [eqKey, VlA, eqFlat, eqLeaf, q, if_true]
structure Tb where
 met : Vl
 arr : List Vl
 prs : List (Vl × Vl)
def flatP (l : List (Vl × Vl)) : List Vl := l.flatMap fun x => [x.1, x.2]
theorem flatP_len (l : List (Vl × Vl)) : (flatP l).length = 2 * l.length := by
 induction l with
 | nil => rfl
 | cons x l ih => show (x.1 :: x.2 :: flatP l).length = _; simp only [List.length_cons, ih]; omega
theorem flatP_key (l : List (Vl × Vl)) {i : Nat} (hi : i < l.length) : (flatP l)[2 * i]? = some l[i].1 := by
 induction l generalizing i with
 | nil => simp at hi
 | cons x l ih =>
  show (x.1 :: x.2 :: flatP l)[2 * i]? = _
  cases i with
  | zero => rfl
  | succ i =>
   have e : 2 * (i + 1) = (2 * i + 1) + 1 := by omega
   rw [e, List.getElem?_cons_succ, List.getElem?_cons_succ]
   simpa using ih (by simpa using hi)
theorem flatP_val (l : List (Vl × Vl)) {i : Nat} (hi : i < l.length) : (flatP l)[2 * i + 1]? = some l[i].2 := by
 induction l generalizing i with
 | nil => simp at hi
 | cons x l ih =>
  show (x.1 :: x.2 :: flatP l)[2 * i + 1]? = _
  cases i with
  | zero => rfl
  | succ i =>
   have e : 2 * (i + 1) + 1 = (2 * i + 1 + 1) + 1 := by omega
   rw [e, List.getElem?_cons_succ, List.getElem?_cons_succ]
   simpa using ih (by simpa using hi)
def Tb.slots (T : Tb) : List Vl := T.met :: ⟨3, (T.arr.length : Int)⟩ :: (T.arr ++ flatP T.prs)
structure TbOk (T : Tb) : Prop where
 may : ∀ v ∈ T.slots, mayV v = true ∧ v.k ≠ 0
 met : T.met = ⟨1, 0⟩ ∨ T.met.k = 6
 last : ∀ v, T.arr.getLast? = some v → v ≠ ⟨1, 0⟩
 once : (T.prs.map (·.1)).Nodup
 key : ∀ x ∈ T.prs, keyV x.1 = true ∧ x.2 ≠ ⟨1, 0⟩ ∧ placedV x.1 ((T.arr.length : Int) + 1) = false
 len : T.slots.length ≤ 2 ^ 20
def posP (l : List (Vl × Vl)) (v : Vl) : Option Nat := l.findIdx? fun x => x.1 = v
def unV : AV → Option Vl
 | .agg (.cons (.int 3 k) (.cons (.int 3 n) .nil)) => some ⟨k, n⟩
 | _ => none
theorem unV_of (v : Vl) : unV (VlA v) = some v := rfl
def posF (l : List (Vl × Vl)) (a : AV) : Option AV := (unV a).bind fun v => (posP l v).map fun i => .int 3 ((2 * i : Nat) : Int)
end Go.Proofs.Ythpnhdopheofcaa
end
section
namespace Go.Proofs.Ythpnhdopheofcaa
open Go.Dx
variable {tbl : Nat → Option CFunc}
structure DcT (tbl : Nat → Option CFunc) : Prop where
 h117 : tbl 117 = some cf117
 h121 : tbl 121 = some cf121
 h124 : tbl 124 = some cf124
 h125 : tbl 125 = some cf125
 h128 : tbl 128 = some cf128
 h129 : tbl 129 = some cf129
 h143 : tbl 143 = some cf143
 h145 : tbl 145 = some cf145
 h146 : tbl 146 = some cf146
theorem vl_at {M : Mem} {a : AV} {l : List Vl} (h : SlIs M a 2 (VlL l)) {i : Nat} (hi : i < l.length) : ∃ p o, slAt a = some (p, o, l.length) ∧ MB.cellsAt (M.get p) (o + i * 2) 2 = some [.int 3 l[i].k, .int 3 l[i].n] := by
 obtain ⟨p, o, h1, h2⟩ := h.at_ (i := i) (by rw [vlL_len]; exact hi)
 rw [vlL_len] at h1
 refine ⟨p, o, h1, ?_⟩
 rw [h2]
 simp [VlL, VlR, hi]
theorem slots_arr (T : Tb) : ((VlL T.slots).take (2 + T.arr.length)).drop 2 = VlL T.arr := by
 have e : VlL T.slots = [VlR T.met, VlR ⟨3, (T.arr.length : Int)⟩] ++ (VlL T.arr ++ VlL (flatP T.prs)) := by simp [Tb.slots, VlL]
 rw [e, List.take_append]
 have e1 : 2 + T.arr.length - [VlR T.met, VlR ⟨3, (T.arr.length : Int)⟩].length = (VlL T.arr).length := by rw [vlL_len]; show 2 + _ - 2 = _; omega
 rw [e1, List.take_left, List.take_of_length_le (by show 2 ≤ _; omega)]
 rfl
theorem slots_prs (T : Tb) : ((VlL T.slots).take T.slots.length).drop (2 + T.arr.length) = VlL (flatP T.prs) := by
 rw [List.take_of_length_le (by rw [vlL_len]; exact Nat.le_refl _)]
 have e : VlL T.slots = ([VlR T.met, VlR ⟨3, (T.arr.length : Int)⟩] ++ VlL T.arr) ++ VlL (flatP T.prs) := by simp [Tb.slots, VlL]
 rw [e]
 have e1 : 2 + T.arr.length = ([VlR T.met, VlR ⟨3, (T.arr.length : Int)⟩] ++ VlL T.arr).length := by rw [List.length_append, vlL_len]; rfl
 rw [e1, List.drop_left]
def seqTail : Nat → CCode → CCode
 | n + 1, .seq _ b => seqTail n b
 | _, c => c
def seqHead : CCode → CCode
 | .seq a _ => a
 | c => c
theorem body0 : cf124.body = .seq (seqHead cf124.body) (.seq (seqHead (seqTail 1 cf124.body)) (.seq (seqHead (seqTail 2 cf124.body)) (.seq (seqHead (seqTail 3 cf124.body)) (seqTail 4 cf124.body)))) := rfl
theorem body4 : seqTail 4 cf124.body = .seq (seqHead (seqTail 4 cf124.body)) (.seq (seqHead (seqTail 5 cf124.body)) (.seq (seqHead (seqTail 6 cf124.body)) (seqTail 7 cf124.body))) := rfl
theorem posP_take (l : List (Vl × Vl)) {n : Nat} (hn : n < l.length) (hd : (l.map (·.1)).Nodup) : posP (l.take n) (l[n]).1 = none := by
 rw [posP, List.findIdx?_eq_none_iff]
 intro x hx
 obtain ⟨i, hi, rfl⟩ := List.getElem_of_mem hx
 rw [List.length_take] at hi
 rw [List.getElem_take]
 simp only [decide_eq_false_iff_not]
 intro e
 have h1 : (l.map (·.1))[i]'(by rw [List.length_map]; omega) = (l.map (·.1))[n]'(by rw [List.length_map]; omega) := by simpa using e
 have := (List.getElem_inj hd).1 h1
 omega
theorem posF_step (l : List (Vl × Vl)) {n : Nat} (hn : n < l.length) (hd : (l.map (·.1)).Nodup) : ∀ a, (∃ v, a = VlA v) → updF (posF (l.take n)) (VlA l[n].1) (some (.int 3 ((2 * n : Nat) : Int))) a = posF (l.take (n + 1)) a := by
 rintro a ⟨v, rfl⟩
 have hp : posP (l.take (n + 1)) v = match posP (l.take n) v with | some i => some i | none => if l[n].1 = v then some n else none := by
  rw [List.take_succ_eq_append_getElem hn, posP, List.findIdx?_append]
  have hl : (l.take n).length = n := by rw [List.length_take]; omega
  cases h : List.findIdx? (fun x => decide (x.1 = v)) (l.take n) with
  | some i => simp [posP, h]
  | none =>
   simp only [posP, h, Option.none_or]
   by_cases e : l[n].1 = v
   ·simp [List.findIdx?_cons, e, hl]
   ·simp [List.findIdx?_cons, e]
 by_cases e : v = l[n].1
 ·subst e
  rw [updF_same]
  simp only [posF, unV_of, Option.bind_some, hp, posP_take l hn hd, if_true, Option.map_some]
 ·have hne : VlA v ≠ VlA l[n].1 := fun h => e (by have := congrArg unV h; simpa [unV_of] using this)
  rw [updF_ne _ _ hne]
  simp only [posF, unV_of, Option.bind_some, hp]
  have e' : ¬ (l[n].1 = v) := fun h => e h.symm
  cases posP (l.take n) v <;> simp [e']
theorem parts_tail2 (D : DcT tbl) {M : Mem} {va vp : AV} {T : Tb} {fr : Tr AV} {Q : CR → Mem → Prop} (hw : M.wf) (hT : TbOk T) (s1 : SlIs M va 2 (VlL T.arr)) (s2 : SlIs M vp 2 (VlL (flatP T.prs))) (f1 : fr.get (.o (.o .h)) = some va) (f2 : fr.get (.i (.o .h)) = some vp)
  (hQ : ∀ a p mp M', SlIs M' a 2 (VlL T.arr) → SlIs M' p 2 (VlL (flatP T.prs)) → But (fun _ => False) M M' → (∃ es c, M'.get mp = some (.map es c) ∧ MapIs (.flat [.int, .int]) (fun a => ∃ v, a = VlA v) es (posF T.prs)) → Q (.ret (.tuple (.cons a (.cons p (.cons (.map mp) (.cons (.bool true) .nil)))))) M') :
  CCode.wp tbl (seqTail 7 cf124.body) fr M (finW cf124.results Q) := by
 have hn : T.slots.length = T.arr.length + 2 * T.prs.length + 2 := by simp only [Tb.slots, List.length_cons, List.length_append, flatP_len]
 have hb := hT.len
 have l1 : slLen va = some T.arr.length := by rw [s1.len, vlL_len]
 have l2 : slLen vp = some (2 * T.prs.length) := by rw [s2.len, vlL_len, flatP_len]
 have b0 := But.new (S := fun _ => False) hw (.map .nil 0)
 have w0 := hw.new (.map .nil 0)
 have x0 : (M.new (.map .nil 0)).get M.next = some (.map .nil 0) := by simp only [go_sem]
 simp only [go_sem, cf124, seqTail]
 refine loop_wp (I := fun n fr M' => n ≤ T.prs.length ∧ M'.wf ∧ But (fun _ => False) M M' ∧ (∃ es c, M'.get M.next = some (.map es c) ∧ MapIs (.flat [.int, .int]) (fun a => ∃ v, a = VlA v) es (posF (T.prs.take (T.prs.length - n)))) ∧ fr.get (.o (.o .h)) = some va ∧ fr.get (.i (.o .h)) = some vp ∧ fr.get (.o (.i .h)) = some (.map M.next) ∧ fr.get (.o (.i (.o .h))) = some (.int 3 ((2 * (T.prs.length - n) : Nat) : Int))) (n := T.prs.length) ?_ ?_
 ·refine ⟨Nat.le_refl _, w0, b0, ⟨.nil, 0, x0, ?_⟩, by simp [Tr.get_set, f1], by simp [Tr.get_set, f2], by simp [Tr.get_set], by rw [Nat.sub_self, Tr.get_set]; rfl⟩
  rw [Nat.sub_self]
  exact MapIs.nil.congr fun a ha => by obtain ⟨v, rfl⟩ := ha; simp [posF, unV_of, posP]
 ·rintro n fr M' ⟨i1, i2, i3, ⟨es, c, i4, i5⟩, f1, f2, f3, f4⟩
  cases n with
  | zero =>
   have g : decide (((2 * (T.prs.length - 0) : Nat) : Int) < ((2 * T.prs.length : Nat) : Int)) = false := by simp only [decide_eq_false_iff_not]; omega
   rw [Nat.sub_zero, List.take_length] at i5
   simp only [go_sem, f1, f2, f3, f4, l2, g]
   exact hQ _ _ _ _ (s1.old i3.old) (s2.old i3.old) i3 ⟨es, c, i4, i5⟩
  | succ n =>
   have g : decide (((2 * (T.prs.length - (n + 1)) : Nat) : Int) < ((2 * T.prs.length : Nat) : Int)) = true := by simp only [decide_eq_true_eq]; omega
   have hi : T.prs.length - (n + 1) < T.prs.length := by omega
   have hfl : (flatP T.prs).length = 2 * T.prs.length := flatP_len _
   obtain ⟨p, po, a1, a2⟩ := vl_at (s2.old i3.old) (i := 2 * (T.prs.length - (n + 1))) (by omega)
   rw [hfl] at a1
   have k1 := flatP_key T.prs hi
   rw [List.getElem?_eq_getElem (by omega)] at k1
   rw [Option.some.inj k1] at a2
   have hkey := hT.key _ (List.getElem_mem hi)
   have hstep := posF_step T.prs hi hT.once
   have hnone : posF (T.prs.take (T.prs.length - (n + 1))) (VlA (T.prs[T.prs.length - (n + 1)]).1) = none := by simp only [posF, unV_of, Option.bind_some, posP_take T.prs hi hT.once, Option.map_none]
   have k2 := flatP_val T.prs hi
   generalize hx : T.prs[T.prs.length - (n + 1)] = x at *
   obtain ⟨⟨xk, xn⟩, ⟨yk, yn⟩⟩ := x
   have hf := i5.find (VlA ⟨xk, xn⟩) ⟨_, rfl⟩
   rw [hnone] at hf
   simp only [VlA] at hf
   have g2 : 2 * (T.prs.length - (n + 1)) < 2 * T.prs.length := by omega
   have ne := i2.ne i4
   have hok : okKey (.flat [.int, .int]) (VlA ⟨xk, xn⟩) = true := MapIs.okKey goodVl ⟨_, rfl⟩
   simp only [VlA] at hok
   have b1 := But.fill i2 (.cells [.int 3 0, .int 3 0] false) (.cells [.int 3 xk, .int 3 xn] false)
   have w1 := i2.fill (.cells [.int 3 0, .int 3 0] false) (.cells [.int 3 xk, .int 3 xn] false)
   have x1 : ((M'.new (.cells [.int 3 0, .int 3 0] false)).put M'.next (.cells [.int 3 xk, .int 3 xn] false)).get M'.next = some (.cells [.int 3 xk, .int 3 xn] false) := by simp [Mem.put]
   simp only [go_sem, f1, f2, f3, f4, l2, g, g2, a1, a2, i4, ne, hf, hok]
   refine (key_spec D.h125 D.h117 D.h143 ⟨xk, xn⟩).use ?_
   rintro r M2 hw2 ⟨rfl, b2⟩
   rw [hkey.1]
   have d2 := (i3.trans b1).trans b2
   obtain ⟨p', po', a1', a2'⟩ := vl_at (s2.old d2.old) (i := 2 * (T.prs.length - (n + 1)) + 1) (by omega)
   rw [hfl] at a1'
   rw [a1] at a1'
   cases a1'
   rw [List.getElem?_eq_getElem (by omega)] at k2
   rw [Option.some.inj k2] at a2'
   have g3 : 2 * (T.prs.length - (n + 1)) + 1 < 2 * T.prs.length := by omega
   have e1 : IntKind.i64.wrap (((2 * (T.prs.length - (n + 1)) : Nat) : Int) + 1) = ((2 * (T.prs.length - (n + 1)) + 1 : Nat) : Int) := by rw [wrap64 (by omega) (by omega)]; omega
   simp only [go_sem, f1, f2, f4, e1, a1, g3, a2']
   refine (null_spec' D.h129 ⟨yk, yn⟩).use ?_
   rintro r M3 hw3 ⟨rfl, b3⟩
   have hnv : nullV ⟨yk, yn⟩ = false := by simp only [nullV, decide_eq_false_iff_not]; exact hkey.2.1
   rw [hnv]
   have x3 := (b2.trans b3).get _ _ id x1
   have e2 : IntKind.i64.wrap ((T.arr.length : Int) + 1) = (T.arr.length : Int) + 1 := wrap64 (by omega) (by omega)
   simp only [go_sem, f1, x3, l1, e2]
   refine (placed_spec D.h128 ⟨xk, xn⟩ _).use ?_
   rintro r M4 hw4 ⟨rfl, b4⟩
   rw [hkey.2.2]
   have d4 := (d2.trans b3).trans b4
   have x4 := b4.get _ _ id x3
   have m4 := ((b1.trans b2).trans (b3.trans b4)).get _ _ id i4
   obtain ⟨es', fr', p1, p2⟩ := i5.put goodVl (a := VlA ⟨xk, xn⟩) (v := .int 3 ((2 * (T.prs.length - (n + 1)) : Nat) : Int)) ⟨_, rfl⟩ c
   simp only [VlA] at p1
   have e3 : IntKind.i64.wrap (((2 * (T.prs.length - (n + 1)) : Nat) : Int) + 2) = ((2 * (T.prs.length - n) : Nat) : Int) := by rw [wrap64 (by omega) (by omega)]; omega
   simp only [go_sem, f3, f4, x4, m4, p1, e3, hok]
   have hn4 : M.next.num ≤ M.next.num := Nat.le_refl _
   have bp : But (fun p => p = M.next) M4 (M4.put M.next (.map es' (if fr' = true then c + 1 else c))) := But.put (S := fun p => p = M.next) (p := M.next) _ rfl _
   have bb : But (fun _ => False) M (M4.put M.next (.map es' (if fr' = true then c + 1 else c))) := But.fresh hw ((d4.any _).trans (bp.mono fun p e => .inr (by rw [e]; exact Nat.le_refl _)))
   refine ⟨n, by omega, by omega, hw4.put m4 _, bb, ⟨es', if fr' = true then c + 1 else c, by simp [Mem.put], ?_⟩, by simp [Tr.get_set, f1], by simp [Tr.get_set, f2], by simp [Tr.get_set, f3], by rw [Tr.get_set]; rfl⟩
   have e5 : T.prs.length - n = T.prs.length - (n + 1) + 1 := by omega
   rw [e5]
   exact p2.congr hstep
theorem parts_tail (D : DcT tbl) {M : Mem} {sv : AV} {T : Tb} {fr : Tr AV} {Q : CR → Mem → Prop} (hw : M.wf) (hs : CutSl M sv 2 (VlL T.slots)) (hT : TbOk T) (f1 : fr.get (.o .h) = some sv)
  (hQ : ∀ a p mp M', SlIs M' a 2 (VlL T.arr) → SlIs M' p 2 (VlL (flatP T.prs)) → But (fun _ => False) M M' → (∃ es c, M'.get mp = some (.map es c) ∧ MapIs (.flat [.int, .int]) (fun a => ∃ v, a = VlA v) es (posF T.prs)) → Q (.ret (.tuple (.cons a (.cons p (.cons (.map mp) (.cons (.bool true) .nil)))))) M') :
  CCode.wp tbl (seqTail 4 cf124.body) fr M (finW cf124.results Q) := by
 have hr := hs.1
 have hlen := hr.len
 rw [vlL_len] at hlen
 have hn : T.slots.length = T.arr.length + 2 * T.prs.length + 2 := by simp only [Tb.slots, List.length_cons, List.length_append, flatP_len]
 have hb := hT.len
 have g2 : (1 : Nat) < T.slots.length := by omega
 obtain ⟨q, qo, k1, k2⟩ := vl_at hr (i := 1) (by omega)
 have hs1 : T.slots[1]'(by omega) = ⟨3, (T.arr.length : Int)⟩ := rfl
 rw [hs1] at k2
 have d2 : MB.cell (M.get q) (qo + 1 * 2 + 1) = some (.int 3 T.arr.length) := by have := MB.cell_row k2 (j := 1) (by omega); simpa using this
 have hne : VlL T.slots ≠ [] := by intro e; have := congrArg List.length e; rw [vlL_len] at this; simp only [List.length_nil] at this; omega
 obtain ⟨va, p1, s1, hc1⟩ := hs.cut3 (by omega) (lo := 2) (hi := 2 + T.arr.length) (by omega) (by rw [vlL_len]; omega) hne
 obtain ⟨vp, p2, s2, hc2⟩ := hs.cut3 (by omega) (lo := 2 + T.arr.length) (hi := T.slots.length) (by omega) (by rw [vlL_len]; omega) hne
 rw [slots_arr] at s1
 rw [slots_prs] at s2
 have e2 : IntKind.i64.wrap (2 + (T.arr.length : Int)) = ((2 + T.arr.length : Nat) : Int) := by rw [wrap64 (by omega) (by omega)]; omega
 have l1 : slLen va = some T.arr.length := by rw [s1.len, vlL_len]
 have l2 : slLen vp = some (2 * T.prs.length) := by rw [s2.len, vlL_len, flatP_len]
 have e3 : arithI .rem 3 ((2 * T.prs.length : Nat) : Int) 2 = some (.int 3 0) := by
  show (if (2 : Int) = 0 then none else some (AV.int 3 (((2 * T.prs.length : Nat) : Int).tmod 2))) = _
  rw [if_neg (by decide), Int.tmod_eq_emod_of_nonneg (by omega)]
  have : ((2 * T.prs.length : Nat) : Int) % 2 = 0 := by omega
  rw [this]
 have g00 : ((0 : Int) != 0) = false := rfl
 have n2 : natO (AV.int 3 2) = some 2 := rfl
 have tail := fun (fr : Tr AV) (M2 : Mem) (h : M2.wf) (b : But (fun _ => False) M M2) (f1 : fr.get (.o (.o .h)) = some va) (f2 : fr.get (.i (.o .h)) = some vp) => parts_tail2 (Q := Q) D h hT (s1.old b.old) (s2.old b.old) f1 f2 (fun a p mp M' h1 h2 h3 h4 => hQ a p mp M' h1 h2 (b.trans h3) h4)
 rw [body4]
 generalize seqTail 7 cf124.body = tl at *
 by_cases ha : 0 < T.arr.length
 ·have g0 : decide ((0 : Int) < (T.arr.length : Int)) = true := by simp only [decide_eq_true_eq]; omega
  have hm : T.arr.length - 1 < T.arr.length := by omega
  obtain ⟨q', qo', a1, a2⟩ := vl_at s1 (i := T.arr.length - 1) hm
  have e4 : IntKind.i64.wrap ((T.arr.length : Int) - 1) = ((T.arr.length - 1 : Nat) : Int) := by rw [wrap64 (by omega) (by omega)]; omega
  have hlast := hT.last (T.arr[T.arr.length - 1]) (by rw [List.getLast?_eq_getElem?]; exact List.getElem?_eq_getElem hm)
  have hnv : nullV T.arr[T.arr.length - 1] = false := by simp only [nullV, decide_eq_false_iff_not]; exact hlast
  simp only [go_sem, cf124, seqHead, seqTail, f1, k1, g2, d2, e2, hlen, n2, p1, p2, l1, l2, e3, g00, g0, e4, a1, a2, hm]
  refine (null_spec' D.h129 (T.arr[T.arr.length - 1])).use ?_
  rintro r M3 hw3 ⟨rfl, b3⟩
  rw [hnv]
  simp only [go_sem]
  refine tail _ _ hw3 b3 ?_ ?_
  ·first | rfl | simp [Tr.get_set]
  ·first | rfl | simp [Tr.get_set]
 ·have g0 : decide ((0 : Int) < (T.arr.length : Int)) = false := by simp only [decide_eq_false_iff_not]; omega
  simp only [go_sem, cf124, seqHead, seqTail, f1, k1, g2, d2, e2, hlen, n2, p1, p2, l1, l2, e3, g00, g0]
  refine tail _ _ hw (But.refl _ _) ?_ ?_
  ·first | rfl | simp [Tr.get_set]
  ·first | rfl | simp [Tr.get_set]
theorem parts_spec (D : DcT tbl) {M : Mem} {sv : AV} {T : Tb} (hs : CutSl M sv 2 (VlL T.slots)) (hT : TbOk T) :
  CallW tbl 124 (.cons sv .nil) M fun r M' => ∃ a p mp, r = .ret (.tuple (.cons a (.cons p (.cons (.map mp) (.cons (.bool true) .nil))))) ∧ But (fun _ => False) M M' ∧ SlIs M' a 2 (VlL T.arr) ∧ SlIs M' p 2 (VlL (flatP T.prs)) ∧ ∃ es c, M'.get mp = some (.map es c) ∧ MapIs (.flat [.int, .int]) (fun a => ∃ v, a = VlA v) es (posF T.prs) := by
 refine CallW.wf fun hw => ?_
 refine CallW.intro D.h124 rfl (fr := .nod (.val .leaf sv .leaf) .leaf) rfl ?_
 have hr := hs.1
 have hlen := hr.len
 rw [vlL_len] at hlen
 have hn : T.slots.length = T.arr.length + 2 * T.prs.length + 2 := by simp only [Tb.slots, List.length_cons, List.length_append, flatP_len]
 have hb := hT.len
 obtain ⟨p, po, a1, a2⟩ := vl_at hr (i := 1) (by omega)
 have hs1 : T.slots[1]'(by omega) = ⟨3, (T.arr.length : Int)⟩ := rfl
 rw [hs1] at a2
 obtain ⟨p', po', a1', a3⟩ := vl_at hr (i := 0) (by omega)
 rw [a1] at a1'
 cases a1'
 have hs0 : T.slots[0]'(by omega) = T.met := rfl
 rw [hs0] at a3
 have c1 : MB.cell (M.get p) (po + 1 * 2 + 0) = some (.int 3 3) := by have := MB.cell_row a2 (j := 0) (by omega); simpa using this
 have c2 : MB.cell (M.get p) (po + 1 * 2 + 1) = some (.int 3 T.arr.length) := by have := MB.cell_row a2 (j := 1) (by omega); simpa using this
 have c3 : MB.cell (M.get p) (po + 0 * 2 + 0) = some (.int 3 T.met.k) := by have := MB.cell_row a3 (j := 0) (by omega); simpa using this
 have g1 : decide (((T.slots.length : Nat) : Int) < 2) = false := by simp only [decide_eq_false_iff_not]; omega
 have g2 : (1 : Nat) < T.slots.length := by omega
 have g3 : (0 : Nat) < T.slots.length := by omega
 have g4 : decide (((T.arr.length : Nat) : Int) < 0) = false := by simp only [decide_eq_false_iff_not]; omega
 have e1 : IntKind.i64.wrap (((T.slots.length : Nat) : Int) - 2) = (T.slots.length : Int) - 2 := wrap64 (by omega) (by omega)
 have g5 : decide (((T.slots.length : Nat) : Int) - 2 < (T.arr.length : Int)) = false := by simp only [decide_eq_false_iff_not]; omega
 have g33 : ((3 : Int) != 3) = false := rfl
 have tail := fun (fr : Tr AV) (M2 : Mem) (h : M2.wf) (b12 : But (fun _ => False) M M2) (f1 : fr.get (.o .h) = some sv) => parts_tail (Q := fun r M' => ∃ a p mp, r = .ret (.tuple (.cons a (.cons p (.cons (.map mp) (.cons (.bool true) .nil))))) ∧ But (fun _ => False) M M' ∧ SlIs M' a 2 (VlL T.arr) ∧ SlIs M' p 2 (VlL (flatP T.prs)) ∧ ∃ es c, M'.get mp = some (.map es c) ∧ MapIs (.flat [.int, .int]) (fun a => ∃ v, a = VlA v) es (posF T.prs)) D h (hs.quiet b12) hT f1 (fun a p mp M' h1 h2 h3 h4 => ⟨a, p, mp, rfl, b12.trans h3, h1, h2, h4⟩)
 rw [body0]
 generalize seqTail 4 cf124.body = tl at *
 simp only [go_sem, cf124, seqHead, seqTail, hlen, g1, g2, g3, a1, c1, c2, c3, g4, g5, e1, g33]
 refine (contains_none0 D.h121 D.h145 hr (by omega) (fun v hv M' hw' b' => bad_spec D.h146 D.h117 D.h143 (hT.may v hv).1 (hT.may v hv).2)).use ?_
 rintro r M1 hw1 ⟨rfl, b1⟩
 obtain ⟨q, qo, k1, a3'⟩ := vl_at (hr.old b1.old) (i := 0) (by omega)
 rw [a1] at k1
 cases k1
 rw [hs0] at a3'
 have a3'' : MB.cellsAt (M1.get p) (po + 0) 2 = some [.int 3 T.met.k, .int 3 T.met.n] := by
  have e : po + 0 * 2 = po + 0 := by omega
  rw [e] at a3'
  exact a3'
 simp only [go_sem, g3, a1, a3'']
 refine (null_spec' D.h129 T.met).use ?_
 rintro r M2 hw2 ⟨rfl, b2⟩
 have b12 := b1.trans b2
 rcases hT.met with hm | hm
 ·have hnv : nullV T.met = true := by simp [nullV, hm]
  rw [hnv]
  simp only [go_sem]
  refine tail _ _ hw2 b12 ?_
  first | rfl | simp [Tr.get_set]
 ·have hnv : nullV T.met = false := by simp only [nullV, decide_eq_false_iff_not]; intro e; rw [e] at hm; exact absurd hm (by decide)
  obtain ⟨q, qo, k1, k3⟩ := vl_at (hr.old b12.old) (i := 0) (by omega)
  rw [a1] at k1
  cases k1
  rw [hs0] at k3
  have d3 : MB.cell (M2.get p) (po + 0 + 0) = some (.int 3 T.met.k) := by
   have h := MB.cell_row k3 (j := 0) (by omega)
   have e : po + 0 * 2 + 0 = po + 0 + 0 := by omega
   rw [e] at h
   simpa using h
  have g6 : (T.met.k != 6) = false := by simp [hm]
  rw [hnv]
  simp only [go_sem, a1, g3, d3, g6]
  refine tail _ _ hw2 b12 ?_
  first | rfl | simp [Tr.get_set]
end Go.Proofs.Ythpnhdopheofcaa
end
section
namespace Go.Proofs.Ythpnhdopheofcaa
open Go.Dx
variable {tbl : Nat → Option CFunc}
theorem check_ok (D : DcT tbl) (h : tbl 131 = some cf131) {M : Mem} {sv : AV} {T : Tb} (hs : CutSl M sv 2 (VlL T.slots)) (hT : TbOk T) :
  CallW tbl 131 (.cons sv .nil) M fun r M' => r = .ret (.bool true) ∧ But (fun _ => False) M M' := by
 refine CallW.intro h rfl (fr := .nod (.val .leaf sv .leaf) .leaf) rfl ?_
 simp only [go_sem, cf131]
 refine (parts_spec D hs hT).use ?_
 rintro r M1 hw1 ⟨a, p, mp, rfl, b, _⟩
 simp only [go_sem]
 first | exact b | exact ⟨rfl, b⟩
def Tb.get (T : Tb) (k : Vl) : Vl :=
 if placedV k T.arr.length = true then (T.arr[(k.n - 1).toNat]?).getD ⟨1, 0⟩
 else match posP T.prs k with | some i => ((T.prs[i]?).map (·.2)).getD ⟨1, 0⟩ | none => ⟨1, 0⟩
theorem posP_lt {l : List (Vl × Vl)} {k : Vl} {i : Nat} (h : posP l k = some i) : i < l.length := by
 unfold posP at h
 exact (List.findIdx?_eq_some_iff_getElem.1 h).1
end Go.Proofs.Ythpnhdopheofcaa
end
section
namespace Go.Proofs.Ythpnhdopheofcaa
open Go.Dx
variable {tbl : Nat → Option CFunc}
end Go.Proofs.Ythpnhdopheofcaa
end
section
namespace Go.Proofs.Ythpnhdopheofcaa
open Go.Dx
variable {tbl : Nat → Option CFunc}
end Go.Proofs.Ythpnhdopheofcaa
end
section
namespace Go.Proofs.Ythpnhdopheofcaa
open Go.Dx
variable {tbl : Nat → Option CFunc}
def posI (l : List (Vl × Vl)) (k : Vl) : Int := match posP l k with | some i => ((2 * i : Nat) : Int) | none => -1
theorem posP_at {l : List (Vl × Vl)} {k : Vl} {n : Nat} (hn : n < l.length) (h0 : posP (l.take n) k = none) (e : l[n].1 = k) : posP l k = some n := by
 unfold posP at h0 ⊢
 rw [List.findIdx?_eq_some_iff_getElem]
 refine ⟨hn, by simpa using e, fun j hj => ?_⟩
 rw [List.findIdx?_eq_none_iff] at h0
 have := h0 (l[j]'(by omega)) (List.mem_take_iff_getElem.2 ⟨j, by omega, rfl⟩)
 simpa using this
theorem posP_step {l : List (Vl × Vl)} {k : Vl} {n : Nat} (hn : n < l.length) (h0 : posP (l.take n) k = none) (e : l[n].1 ≠ k) : posP (l.take (n + 1)) k = none := by
 unfold posP at h0 ⊢
 rw [List.findIdx?_eq_none_iff] at h0 ⊢
 intro x hx
 rw [List.take_succ_eq_append_getElem hn] at hx
 rcases List.mem_append.1 hx with h | h
 ·exact h0 x h
 ·rw [List.mem_singleton.1 h]; simpa using e
theorem find_spec (h : tbl 148 = some cf148) {M : Mem} {tp : Pos} {va vp vg : AV} {op : Bool} {l : List (Vl × Vl)} {k : Vl} (hb : l.length ≤ 2 ^ 20) (ht : M.get tp = some (.cells [va, vp, vg] op)) (hs : SlIs M vp 2 (VlL (flatP l))) :
  CallW tbl 148 (.cons (.ptr tp 0) (.cons (VlA k) .nil)) M fun r M' => r = .ret (.int 3 (posI l k)) ∧ But (fun _ => False) M M' := by
 refine CallW.wf fun hw => ?_
 cases hkk : k with
 | mk kk kn =>
 refine CallW.intro h rfl (fr := .nod (.val .leaf (.ptr tp 0) .leaf) (.val .leaf (VlA ⟨kk, kn⟩) .leaf)) rfl ?_
 have b1 := But.new (S := fun _ => False) hw (.cells [.int 3 kk, .int 3 kn] false)
 have x1 : (M.new (.cells [.int 3 kk, .int 3 kn] false)).get M.next = some (.cells [.int 3 kk, .int 3 kn] false) := by simp only [go_sem]
 have t1 := b1.get _ _ id ht
 have l2 : slLen vp = some (2 * l.length) := by rw [hs.len, vlL_len, flatP_len]
 simp only [go_sem, cf148, VlA]
 generalize hM1 : M.new (.cells [.int 3 kk, .int 3 kn] false) = M1 at *
 refine loop_wp (I := fun n fr M' => n ≤ l.length ∧ M' = M1 ∧ posP (l.take (l.length - n)) k = none ∧ fr.get (.o .h) = some (.ptr tp 0) ∧ fr.get (.i (.o .h)) = some (.ptr M.next 0) ∧ fr.get (.i (.i .h)) = some (.int 3 ((2 * (l.length - n) : Nat) : Int))) (n := l.length) ?_ ?_
 ·exact ⟨Nat.le_refl _, rfl, by rw [Nat.sub_self]; rfl, rfl, rfl, by rw [Nat.sub_self]; rfl⟩
 ·rintro n fr M' ⟨i1, rfl, i3, f1, f2, f3⟩
  cases n with
  | zero =>
   have g : decide (((2 * (l.length - 0) : Nat) : Int) < ((2 * l.length : Nat) : Int)) = false := by simp only [decide_eq_false_iff_not]; omega
   rw [Nat.sub_zero, List.take_length] at i3
   have hp : posI l k = -1 := by simp only [posI, i3]
   simp only [go_sem, f1, f2, f3, t1, l2, g]
   rw [hkk] at hp
   first | exact ⟨by rw [hp], b1⟩ | (simp only [hp]; exact ⟨rfl, b1⟩) | (rw [hp]; exact b1)
  | succ n =>
   have g : decide (((2 * (l.length - (n + 1)) : Nat) : Int) < ((2 * l.length : Nat) : Int)) = true := by simp only [decide_eq_true_eq]; omega
   have hi : l.length - (n + 1) < l.length := by omega
   have hfl : (flatP l).length = 2 * l.length := flatP_len _
   obtain ⟨q, qo, a1, a2⟩ := vl_at (hs.old b1.old) (i := 2 * (l.length - (n + 1))) (by omega)
   rw [hfl] at a1
   have k2 := flatP_key l hi
   rw [List.getElem?_eq_getElem (by omega)] at k2
   rw [Option.some.inj k2] at a2
   have g3 : 2 * (l.length - (n + 1)) < 2 * l.length := by omega
   by_cases he : l[l.length - (n + 1)].1 = k
   ·have hp : posI l k = ((2 * (l.length - (n + 1)) : Nat) : Int) := by simp only [posI, posP_at hi i3 he]
    rw [he, hkk] at a2
    simp only at a2
    have ge : (((kk == kk) && (kn == kn)) != false) = true := by simp
    have g1 : (kk == kk) = true := by simp
    have g2 : (kn == kn) = true := by simp
    simp only [go_sem, f1, f2, f3, t1, l2, g, g3, a1, a2, x1, g1, g2]
    rw [hkk] at hp
    first | exact ⟨by rw [hp], b1⟩ | (simp only [hp]; exact ⟨rfl, b1⟩) | (rw [hp]; exact b1)
   ·have i3' := posP_step hi i3 he
    cases hxx : l[l.length - (n + 1)].1 with
    | mk xk xn =>
    rw [hxx] at a2
    simp only at a2
    have ge : (((xk == kk) && (xn == kn)) != false) = false := by
     have : ¬ (xk = kk ∧ xn = kn) := fun ⟨e1, e2⟩ => he (by rw [hxx, hkk, e1, e2])
     simpa using this
    have e1 : IntKind.i64.wrap (((2 * (l.length - (n + 1)) : Nat) : Int) + 2) = ((2 * (l.length - n) : Nat) : Int) := by rw [wrap64 (by omega) (by omega)]; omega
    simp only [go_sem, f1, f2, f3, t1, l2, g, g3, a1, a2, x1, ge, e1]
    exact ⟨n, by omega, by omega, rfl, by rw [show l.length - n = l.length - (n + 1) + 1 by omega]; exact i3', by simp [Tr.get_set, f1], by simp [Tr.get_set, f2], by rw [Tr.get_set]; rfl⟩
end Go.Proofs.Ythpnhdopheofcaa
end
section
namespace Go.Proofs.Ythpnhdopheofcaa
open Go.Dx
variable {tbl : Nat → Option CFunc}
end Go.Proofs.Ythpnhdopheofcaa
end
section
namespace Go.Proofs.Ythpnhdopheofcaa
open Go.Dx
variable {tbl : Nat → Option CFunc}
def flatV (l : List (Vl × Vl)) : List (List AV) := VlL (flatP l)
theorem flatV_cons (x : Vl × Vl) (l : List (Vl × Vl)) : flatV (x :: l) = VlR x.1 :: VlR x.2 :: flatV l := rfl
theorem flatV_len (l : List (Vl × Vl)) : (flatV l).length = 2 * l.length := by rw [flatV, vlL_len, flatP_len]
theorem flatV_app (l r : List (Vl × Vl)) : flatV (l ++ r) = flatV l ++ flatV r := by
 induction l with
 | nil => rfl
 | cons x l ih => rw [List.cons_append, flatV_cons, flatV_cons, ih]; rfl
theorem flatV_take (l : List (Vl × Vl)) (j : Nat) : flatV (l.take j) = (flatV l).take (2 * j) := by
 induction l generalizing j with
 | nil => simp [flatV, flatP, VlL]
 | cons x l ih =>
  cases j with
  | zero => rfl
  | succ j =>
   rw [List.take_succ_cons, flatV_cons, flatV_cons, ih, show 2 * (j + 1) = (2 * j + 1) + 1 by omega, List.take_succ_cons, List.take_succ_cons]
theorem flatV_drop (l : List (Vl × Vl)) (j : Nat) : flatV (l.drop j) = (flatV l).drop (2 * j) := by
 induction l generalizing j with
 | nil => simp [flatV, flatP, VlL]
 | cons x l ih =>
  cases j with
  | zero => rfl
  | succ j =>
   rw [List.drop_succ_cons, flatV_cons, ih, show 2 * (j + 1) = (2 * j + 1) + 1 by omega, List.drop_succ_cons, List.drop_succ_cons]
def takeP (l : List (Vl × Vl)) (i : Nat) : List (Vl × Vl) := (l.take i ++ l.drop (l.length - 1) ++ l.drop (i + 1)).take (l.length - 1)
structure DtB (M : Mem) (own : Own) (tp : Pos) (va vp vg : AV) (arr : List Vl) (prs : List (Vl × Vl)) : Prop where
 inn : own.in M
 tpo : own tp = some (30, 0)
 tpc : M.get tp = some (.cells [va, vp, vg] false)
 arr_ : SlO M own (31, 0) va 2 (VlL arr)
 prs_ : SlO M own (32, 0) vp 2 (flatV prs)
 gon : SlO M own (33, 0) vg 2 []
theorem DtB.setPrs {M M1 : Mem} {own own1 : Own} {tp : Pos} {va vp vg v : AV} {arr : List Vl} {prs prs' : List (Vl × Vl)} (h : DtB M own tp va vp vg arr prs) (u : OwnUp (32, 0) M M1 own own1) (hb : But (fun p => own p = some (32, 0)) M M1) (hs : SlO M1 own1 (32, 0) v 2 (flatV prs')) :
  DtB (M1.put tp (.cells [va, v, vg] false)) own1 tp va v vg arr prs' := by
 have hq := u.old h.tpo
 have kp : ∀ p c t, own1 p = some t → t ≠ (30, 0) → M1.get p = some c → (M1.put tp (.cells [va, v, vg] false)).get p = some c := fun p c t ho ht hp => by
  show (if p = tp then _ else M1.get p) = _
  rw [if_neg fun e => by rw [e, hq] at ho; cases ho; exact ht rfl]
  exact hp
 have k0 : ∀ p c t, own p = some t → t ≠ (32, 0) → M.get p = some c → M1.get p = some c := fun p c t ho ht hp => hb.get p c (fun e => ht (by rw [ho] at e; exact Option.some.inj e)) hp
 exact ⟨u.in_ h.inn hb.next, hq, by simp [Mem.put], h.arr_.keep (fun p c ho hp => kp p c _ (u.old ho) (by simp) (k0 p c _ ho (by simp) hp)) fun p ho => u.old ho,
  hs.keep (fun p c ho hp => kp p c _ ho (by simp) hp) fun _ h => h, h.gon.keep (fun p c ho hp => kp p c _ (u.old ho) (by simp) (k0 p c _ ho (by simp) hp)) fun p ho => u.old ho⟩
theorem DtB.setArr {M M1 : Mem} {own own1 : Own} {tp : Pos} {va vp vg v : AV} {arr arr' : List Vl} {prs : List (Vl × Vl)} (h : DtB M own tp va vp vg arr prs) (u : OwnUp (31, 0) M M1 own own1) (hb : But (fun p => own p = some (31, 0)) M M1) (hs : SlO M1 own1 (31, 0) v 2 (VlL arr')) :
  DtB (M1.put tp (.cells [v, vp, vg] false)) own1 tp v vp vg arr' prs := by
 have hq := u.old h.tpo
 have kp : ∀ p c t, own1 p = some t → t ≠ (30, 0) → M1.get p = some c → (M1.put tp (.cells [v, vp, vg] false)).get p = some c := fun p c t ho ht hp => by
  show (if p = tp then _ else M1.get p) = _
  rw [if_neg fun e => by rw [e, hq] at ho; cases ho; exact ht rfl]
  exact hp
 have k0 : ∀ p c t, own p = some t → t ≠ (31, 0) → M.get p = some c → M1.get p = some c := fun p c t ho ht hp => hb.get p c (fun e => ht (by rw [ho] at e; exact Option.some.inj e)) hp
 exact ⟨u.in_ h.inn hb.next, hq, by simp [Mem.put], hs.keep (fun p c ho hp => kp p c _ ho (by simp) hp) fun _ h => h,
  h.prs_.keep (fun p c ho hp => kp p c _ (u.old ho) (by simp) (k0 p c _ ho (by simp) hp)) fun p ho => u.old ho, h.gon.keep (fun p c ho hp => kp p c _ (u.old ho) (by simp) (k0 p c _ ho (by simp) hp)) fun p ho => u.old ho⟩
theorem DtB.keep {M M' : Mem} {own : Own} {tp : Pos} {va vp vg : AV} {arr : List Vl} {prs : List (Vl × Vl)} (h : DtB M own tp va vp vg arr prs) (hb : But (fun p => own p = none) M M') : DtB M' own tp va vp vg arr prs := by
 have k : ∀ p b t, own p = some t → M.get p = some b → M'.get p = some b := fun p b t ho hp => hb.get p b (by rw [ho]; simp) hp
 have ks : ∀ {t v size L}, SlO M own t v size L → SlO M' own t v size L := fun hs => hs.keep (fun p b ho hp => k p b _ ho hp) fun _ h => h
 exact ⟨Own.in.mono h.inn hb.next, h.tpo, k _ _ _ h.tpo h.tpc, ks h.arr_, ks h.prs_, ks h.gon⟩
end Go.Proofs.Ythpnhdopheofcaa
end
section
namespace Go.Proofs.Ythpnhdopheofcaa
open Go.Dx
variable {tbl : Nat → Option CFunc}
theorem takeP_len {l : List (Vl × Vl)} {i : Nat} (hi : i < l.length) : (takeP l i).length = l.length - 1 := by
 simp only [takeP, List.length_take, List.length_append, List.length_drop]; omega
theorem flatV_takeP {l : List (Vl × Vl)} {i : Nat} (hi : i < l.length) : ((flatV l).take (2 * i) ++ (flatV l).drop ((flatV l).length - 2) ++ (flatV l).drop (2 * i + 2)).take (2 * l.length - 2) = flatV (takeP l i) := by
 have e1 : (flatV l).length - 2 = 2 * (l.length - 1) := by rw [flatV_len]; omega
 have e2 : 2 * i + 2 = 2 * (i + 1) := by omega
 have e3 : 2 * l.length - 2 = 2 * (l.length - 1) := by omega
 rw [e1, e2, e3, ← flatV_take, ← flatV_drop, ← flatV_drop, ← flatV_app, ← flatV_app, ← flatV_take]
 rfl
end Go.Proofs.Ythpnhdopheofcaa
end
section
namespace Go.Proofs.Ythpnhdopheofcaa
open Go.Dx
variable {tbl : Nat → Option CFunc}
def trimF : Nat → List Vl → List Vl
 | 0, l => l
 | n + 1, l => match l.getLast? with
  | some v => if nullV v = true then trimF n l.dropLast else l
  | none => l
def layV (l : List Vl) (i : Nat) (v : Vl) : List Vl := if i + 1 < l.length then l.set i v else trimF l.length (l.set i v)
theorem DtB.rowArr {M : Mem} {own : Own} {tp p : Pos} {b : MB} {va vp vg : AV} {arr arr' : List Vl} {prs : List (Vl × Vl)} (h : DtB M own tp va vp vg arr prs) (hq : own p = some (31, 0)) (s : SlO (M.put p b) own (31, 0) va 2 (VlL arr')) : DtB (M.put p b) own tp va vp vg arr' prs := by
 have kp : ∀ q c t, own q = some t → t ≠ (31, 0) → M.get q = some c → (M.put p b).get q = some c := fun q c t ho ht hp => by
  show (if q = p then _ else M.get q) = _
  rw [if_neg fun e => by rw [e, hq] at ho; cases ho; exact ht rfl]
  exact hp
 exact ⟨Own.in.mono h.inn (Nat.le_refl _), h.tpo, kp _ _ _ h.tpo (by simp) h.tpc, s, h.prs_.keep (fun q c ho hp => kp q c _ ho (by simp) hp) fun _ h => h, h.gon.keep (fun q c ho hp => kp q c _ ho (by simp) hp) fun _ h => h⟩
end Go.Proofs.Ythpnhdopheofcaa
end
section
namespace Go.Proofs.Ythpnhdopheofcaa
open Go.Dx
variable {tbl : Nat → Option CFunc}
def growF : Nat → List Vl → List (Vl × Vl) → List Vl × List (Vl × Vl)
 | 0, a, l => (a, l)
 | n + 1, a, l => match posP l ⟨3, (a.length : Int) + 1⟩ with
  | some j => growF n (a ++ [((l[j]?).map (·.2)).getD ⟨1, 0⟩]) (takeP l j)
  | none => (a, l)
end Go.Proofs.Ythpnhdopheofcaa
end
section
namespace Go.Proofs.Ythpnhdopheofcaa
open Go.Dx
variable {tbl : Nat → Option CFunc}
def putT (arr : List Vl) (prs : List (Vl × Vl)) (k v : Vl) : List Vl × List (Vl × Vl) :=
 if placedV k arr.length = true then (layV arr (k.n.toNat - 1) v, prs)
 else match posP prs k with
  | some j => if nullV v = true then (arr, takeP prs j) else (arr, prs.set j (((prs[j]?).map (·.1)).getD ⟨1, 0⟩, v))
  | none => if nullV v = true then (arr, prs) else if placedV k ((arr.length : Int) + 1) = true then growF prs.length (arr ++ [v]) prs else (arr, prs ++ [(k, v)])
theorem DtB.rowPrs {M : Mem} {own : Own} {tp p : Pos} {b : MB} {va vp vg : AV} {arr : List Vl} {prs prs' : List (Vl × Vl)} (h : DtB M own tp va vp vg arr prs) (hq : own p = some (32, 0)) (s : SlO (M.put p b) own (32, 0) vp 2 (flatV prs')) : DtB (M.put p b) own tp va vp vg arr prs' := by
 have kp : ∀ q c t, own q = some t → t ≠ (32, 0) → M.get q = some c → (M.put p b).get q = some c := fun q c t ho ht hp => by
  show (if q = p then _ else M.get q) = _
  rw [if_neg fun e => by rw [e, hq] at ho; cases ho; exact ht rfl]
  exact hp
 exact ⟨Own.in.mono h.inn (Nat.le_refl _), h.tpo, kp _ _ _ h.tpo (by simp) h.tpc, h.arr_.keep (fun q c ho hp => kp q c _ ho (by simp) hp) fun _ h => h, s, h.gon.keep (fun q c ho hp => kp q c _ ho (by simp) hp) fun _ h => h⟩
theorem flatV_set (l : List (Vl × Vl)) {j : Nat} (hj : j < l.length) (v : Vl) : (flatV l).set (2 * j + 1) [.int 3 v.k, .int 3 v.n] = flatV (l.set j (l[j].1, v)) := by
 induction l generalizing j with
 | nil => simp at hj
 | cons x l ih =>
  cases j with
  | zero => rfl
  | succ j =>
   rw [flatV_cons, show 2 * (j + 1) + 1 = (2 * j + 1 + 1) + 1 by omega, List.set_cons_succ, List.set_cons_succ, ih (by simpa using hj)]
   rfl
structure PutT (tbl : Nat → Option CFunc) : Prop extends DcT tbl where
 h77 : tbl 77 = some cf77
 h123 : tbl 123 = some cf123
 h126 : tbl 126 = some cf126
 h147 : tbl 147 = some cf147
 h148 : tbl 148 = some cf148
 h149 : tbl 149 = some cf149
 h150 : tbl 150 = some cf150
 h151 : tbl 151 = some cf151
theorem body126 : cf126.body = .seq (seqHead cf126.body) (.seq (seqHead (seqTail 1 cf126.body)) (.seq (seqHead (seqTail 2 cf126.body)) (seqTail 3 cf126.body))) := rfl
end Go.Proofs.Ythpnhdopheofcaa
end
