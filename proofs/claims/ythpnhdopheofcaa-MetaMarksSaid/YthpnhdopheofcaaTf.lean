import Derived.Test.YthpnhdopheofcaaDxWk
import Derived.Test.YthpnhdopheofcaaTt
import Derived.Test.YthpnhdopheofcaaDxCut
import Derived.Test.YthpnhdopheofcaaDxCpy
set_option linter.unusedSimpArgs false
set_option linter.unusedVariables false
section
namespace Go.Proofs.Ythpnhdopheofcaa
open Go.Dx
variable {tbl : Nat → Option CFunc}

/-- None of the values is what a function asks. -/
theorem index_none0 (h : tbl 145 = some cf145) {g : Nat} {M : Mem} {sv : AV} {l : List Vl} (hs : SlIs M sv 2 (VlL l)) (hl : l.length < 2 ^ 62) (hcall : ∀ v ∈ l, ∀ M', M'.wf → But (fun _ => False) M M' → CallW tbl g (.cons (VlA v) .nil) M' fun r M'' => r = .ret (.bool false) ∧ But (fun _ => False) M' M'') :
    CallW tbl 145 (.cons sv (.cons (.func (.func g) .nil .nil) .nil)) M fun r M' => r = .ret (.int 3 (-1)) ∧ But (fun _ => False) M M' := by
  refine CallW.wf fun hw => ?_
  refine CallW.intro h rfl (fr := .nod (.val .leaf sv .leaf) (.val .leaf (.func (.func g) .nil .nil) .leaf)) rfl ?_
  have hlen := hs.len
  rw [vlL_len] at hlen
  simp only [go_sem, cf145, hlen]
  refine loop_wp (I := fun n fr M' => n ≤ l.length ∧ M'.wf ∧ But (fun _ => False) M M' ∧ fr.get (.o .h) = some sv ∧ fr.get (.i .h) = some (.func (.func g) .nil .nil) ∧ fr.get (.i (.o (.o .h))) = some (.int 3 l.length) ∧ fr.get (.o (.i (.o .h))) = some (.int 3 ((l.length - n : Nat) : Int))) (n := l.length) ?_ ?_
  · exact ⟨Nat.le_refl _, hw, But.refl _ _, rfl, rfl, rfl, by rw [Nat.sub_self]; rfl⟩
  · rintro n fr M' ⟨i1, i2, i3, f1, f2, f3, f4⟩
    cases n with
    | zero =>
      have g1 : decide (((l.length - 0 : Nat) : Int) < (l.length : Int)) = false := by simp only [decide_eq_false_iff_not]; omega
      simp only [go_sem, f1, f2, f3, f4, g1]
      exact i3
    | succ n =>
      have g1 : decide (((l.length - (n + 1) : Nat) : Int) < (l.length : Int)) = true := by simp only [decide_eq_true_eq]; omega
      have hi : l.length - (n + 1) < l.length := by omega
      obtain ⟨p, po, a1, a2⟩ := (hs.old i3.old).at_ (i := l.length - (n + 1)) (by rw [vlL_len]; exact hi)
      rw [vlL_len] at a1
      have a3 : (VlL l)[l.length - (n + 1)]? = some (VlR l[l.length - (n + 1)]) := by simp [VlL, hi]
      rw [a3] at a2
      simp only [VlR] at a2
      simp only [go_sem, f1, f2, f3, f4, g1, a1, a2, hi]
      refine (hcall l[l.length - (n + 1)] (List.getElem_mem hi) M' i2 i3).use ?_
      rintro r M2 hw2 ⟨rfl, b2⟩
      have e1 : IntKind.i64.wrap (((l.length - (n + 1) : Nat) : Int) + 1) = ((l.length - n : Nat) : Int) := by rw [wrap64 (by omega) (by omega)]; omega
      simp only [go_sem, f1, f2, f3, f4, e1]
      exact ⟨n, by omega, by omega, hw2, i3.trans b2, by simp [Tr.get_set, f1], by simp [Tr.get_set, f2], by simp [Tr.get_set, f3], by rw [Tr.get_set]; rfl⟩

theorem contains_none0 (h : tbl 121 = some cf121) (h1 : tbl 145 = some cf145) {g : Nat} {M : Mem} {sv : AV} {l : List Vl} (hs : SlIs M sv 2 (VlL l)) (hl : l.length < 2 ^ 62) (hcall : ∀ v ∈ l, ∀ M', M'.wf → But (fun _ => False) M M' → CallW tbl g (.cons (VlA v) .nil) M' fun r M'' => r = .ret (.bool false) ∧ But (fun _ => False) M' M'') :
    CallW tbl 121 (.cons sv (.cons (.func (.func g) .nil .nil) .nil)) M fun r M' => r = .ret (.bool false) ∧ But (fun _ => False) M M' := by
  refine CallW.intro h rfl (fr := .nod (.val .leaf sv .leaf) (.val .leaf (.func (.func g) .nil .nil) .leaf)) rfl ?_
  simp only [go_sem, cf121]
  refine (index_none0 h1 hs hl hcall).use ?_
  rintro r M1 hw1 ⟨rfl, b1⟩
  have g1 : decide ((0 : Int) ≤ -1) = false := rfl
  simp only [go_sem, g1]
  first | exact b1 | exact ⟨rfl, b1⟩


def placedV (v : Vl) (n : Int) : Bool := decide (v.k = 3) && (decide (1 ≤ v.n) && decide (v.n ≤ n))
theorem placed_spec (h : tbl 128 = some cf128) {M : Mem} (v : Vl) (n : Int) : CallW tbl 128 (.cons (VlA v) (.cons (.int 3 n) .nil)) M fun r M' => r = .ret (.bool (placedV v n)) ∧ But (fun _ => False) M M' := by
  refine CallW.wf fun hw => ?_
  obtain ⟨vk, vn⟩ := v
  refine CallW.intro h rfl (fr := .nod (.val .leaf (VlA ⟨vk, vn⟩) .leaf) (.val .leaf (.int 3 n) .leaf)) rfl ?_
  have b1 := But.new (S := fun _ => False) hw (.cells [.int 3 vk, .int 3 vn] false)
  by_cases hk : vk = 3
  · have g1 : (vk == 3) = true := by simp [hk]
    by_cases h1 : 1 ≤ vn
    · have g2 : decide (1 ≤ vn) = true := by simp [h1]
      simp only [go_sem, cf128, VlA, g1, g2]
      first | exact ⟨by simp [placedV, hk, h1], b1⟩ | exact b1
    · have g2 : decide (1 ≤ vn) = false := by simp [h1]
      simp only [go_sem, cf128, VlA, g1, g2]
      first | exact ⟨by simp [placedV, hk, h1], b1⟩ | exact b1
  · have g1 : (vk == 3) = false := by simp [hk]
    simp only [go_sem, cf128, VlA, g1]
    first | exact ⟨by simp [placedV, hk], b1⟩ | exact b1

def nullV (v : Vl) : Bool := decide (v = ⟨1, 0⟩)
theorem null_spec' (h : tbl 129 = some cf129) {M : Mem} (v : Vl) : CallW tbl 129 (.cons (VlA v) .nil) M fun r M' => r = .ret (.bool (nullV v)) ∧ But (fun _ => False) M M' := by
  refine CallW.wf fun hw => ?_
  obtain ⟨vk, vn⟩ := v
  refine CallW.intro h rfl (fr := .nod (.val .leaf (VlA ⟨vk, vn⟩) .leaf) .leaf) rfl ?_
  have b1 := But.new (S := fun _ => False) hw (.cells [.int 3 vk, .int 3 vn] false)
  have e : (((vk == 1) && (vn == 0)) != false) = nullV ⟨vk, vn⟩ := by
    simp only [nullV, Vl.mk.injEq]
    by_cases h1 : vk = 1 <;> by_cases h2 : vn = 0 <;> simp [h1, h2]
  simp only [go_sem, cf129, VlA, e]
  first | exact b1 | exact ⟨rfl, b1⟩

theorem bad_spec (h : tbl 146 = some cf146) (h117 : tbl 117 = some cf117) (h143 : tbl 143 = some cf143) {M : Mem} {v : Vl} (hm : mayV v = true) (hk : v.k ≠ 0) : CallW tbl 146 (.cons (VlA v) .nil) M fun r M' => r = .ret (.bool false) ∧ But (fun _ => False) M M' := by
  refine CallW.wf fun hw => ?_
  obtain ⟨vk, vn⟩ := v
  refine CallW.intro h rfl (fr := .nod (.val .leaf (VlA ⟨vk, vn⟩) .leaf) .leaf) rfl ?_
  have b1 := But.new (S := fun _ => False) hw (.cells [.int 3 vk, .int 3 vn] false)
  have x1 : (M.new (.cells [.int 3 vk, .int 3 vn] false)).get M.next = some (.cells [.int 3 vk, .int 3 vn] false) := by simp only [go_sem]
  simp only [go_sem, cf146, VlA]
  refine (may_spec h117 h143 (v := ⟨vk, vn⟩)).use ?_
  rintro r M1 hw1 ⟨rfl, b2⟩
  have x2 := b2.get _ _ id x1
  have g : (vk == 0) = false := by simpa using hk
  simp only [go_sem, hm, x2, g]
  first | exact b1.trans b2 | exact ⟨rfl, b1.trans b2⟩
end Go.Proofs.Ythpnhdopheofcaa

end
section
namespace Go.Proofs.Ythpnhdopheofcaa
open Go.Dx
variable {tbl : Nat → Option CFunc}

theorem key_spec (h : tbl 125 = some cf125) (h117 : tbl 117 = some cf117) (h143 : tbl 143 = some cf143) {M : Mem} (v : Vl) : CallW tbl 125 (.cons (VlA v) .nil) M fun r M' => r = .ret (.bool (keyV v)) ∧ But (fun _ => False) M M' := by
  refine CallW.wf fun hw => ?_
  obtain ⟨vk, vn⟩ := v
  refine CallW.intro h rfl (fr := .nod (.val .leaf (VlA ⟨vk, vn⟩) .leaf) .leaf) rfl ?_
  have b1 := But.new (S := fun _ => False) hw (.cells [.int 3 vk, .int 3 vn] false)
  by_cases hk : 1 < vk
  · have g1 : decide (1 < vk) = true := by simp [hk]
    simp only [go_sem, cf125, VlA, g1]
    refine (may_spec h117 h143 (v := ⟨vk, vn⟩)).use ?_
    rintro r M1 hw1 ⟨rfl, b2⟩
    simp only [go_sem]
    exact ⟨by simp [keyV, hk], b1.trans b2⟩
  · have g1 : decide (1 < vk) = false := by simp [hk]
    simp only [go_sem, cf125, VlA, g1]
    first | exact ⟨by simp [keyV, hk], b1⟩ | exact b1

/-- Values as keys. -/
theorem goodVl : GoodK (.flat [.int, .int]) (fun a => ∃ v, a = VlA v) where
  same := by rintro a ⟨⟨k, n⟩, rfl⟩; simp [eqKey, VlA, eqFlat, eqLeaf]
  other := by
    rintro a b ⟨⟨k, n⟩, rfl⟩ ⟨⟨k', n'⟩, rfl⟩ hne
    have : ¬ (k = k' ∧ n = n') := fun ⟨e1, e2⟩ => hne (by rw [e1, e2])
    by_cases e : k = k'
    · have e' : n ≠ n' := fun h => this ⟨e, h⟩
      have q : (n == n') = false := by simpa using e'
      have q0 : (k == k') = true := by simpa using e
      simp only [eqKey, VlA, eqFlat, eqLeaf, q, q0, if_true]
    · have q : (k == k') = false := by simpa using e
      simp only [eqKey, VlA, eqFlat, eqLeaf, q, if_true]

/-- A table. -/
structure Tb where
  met : Vl
  arr : List Vl
  prs : List (Vl × Vl)
def flatP (l : List (Vl × Vl)) : List Vl := l.flatMap fun x => [x.1, x.2]
theorem flatP_len (l : List (Vl × Vl)) : (flatP l).length = 2 * l.length := by
  induction l with
  | nil => rfl
  | cons x l ih => show (x.1 :: x.2 :: flatP l).length = _; simp only [List.length_cons, ih]; omega
theorem flatP_key (l : List (Vl × Vl)) {i : Nat} (hi : i < l.length) : (flatP l)[2 * i]? = some l[i].1 := by
  induction l generalizing i with
  | nil => simp at hi
  | cons x l ih =>
    show (x.1 :: x.2 :: flatP l)[2 * i]? = _
    cases i with
    | zero => rfl
    | succ i =>
      have e : 2 * (i + 1) = (2 * i + 1) + 1 := by omega
      rw [e, List.getElem?_cons_succ, List.getElem?_cons_succ]
      simpa using ih (by simpa using hi)
theorem flatP_val (l : List (Vl × Vl)) {i : Nat} (hi : i < l.length) : (flatP l)[2 * i + 1]? = some l[i].2 := by
  induction l generalizing i with
  | nil => simp at hi
  | cons x l ih =>
    show (x.1 :: x.2 :: flatP l)[2 * i + 1]? = _
    cases i with
    | zero => rfl
    | succ i =>
      have e : 2 * (i + 1) + 1 = (2 * i + 1 + 1) + 1 := by omega
      rw [e, List.getElem?_cons_succ, List.getElem?_cons_succ]
      simpa using ih (by simpa using hi)
def Tb.slots (T : Tb) : List Vl := T.met :: ⟨3, (T.arr.length : Int)⟩ :: (T.arr ++ flatP T.prs)

structure TbOk (T : Tb) : Prop where
  may : ∀ v ∈ T.slots, mayV v = true ∧ v.k ≠ 0
  met : T.met = ⟨1, 0⟩ ∨ T.met.k = 6
  last : ∀ v, T.arr.getLast? = some v → v ≠ ⟨1, 0⟩
  once : (T.prs.map (·.1)).Nodup
  key : ∀ x ∈ T.prs, keyV x.1 = true ∧ x.2 ≠ ⟨1, 0⟩ ∧ placedV x.1 ((T.arr.length : Int) + 1) = false
  len : T.slots.length ≤ 2 ^ 20

/-- Where a key's pair stands. -/
def posP (l : List (Vl × Vl)) (v : Vl) : Option Nat := l.findIdx? fun x => x.1 = v
def unV : AV → Option Vl
  | .agg (.cons (.int 3 k) (.cons (.int 3 n) .nil)) => some ⟨k, n⟩
  | _ => none
theorem unV_of (v : Vl) : unV (VlA v) = some v := rfl
/-- What a table's map says of its first pairs. -/
def posF (l : List (Vl × Vl)) (a : AV) : Option AV := (unV a).bind fun v => (posP l v).map fun i => .int 3 ((2 * i : Nat) : Int)
end Go.Proofs.Ythpnhdopheofcaa

end
section
namespace Go.Proofs.Ythpnhdopheofcaa
open Go.Dx
variable {tbl : Nat → Option CFunc}

structure DcT (tbl : Nat → Option CFunc) : Prop where
  h117 : tbl 117 = some cf117
  h121 : tbl 121 = some cf121
  h124 : tbl 124 = some cf124
  h125 : tbl 125 = some cf125
  h128 : tbl 128 = some cf128
  h129 : tbl 129 = some cf129
  h143 : tbl 143 = some cf143
  h145 : tbl 145 = some cf145
  h146 : tbl 146 = some cf146

theorem vl_at {M : Mem} {a : AV} {l : List Vl} (h : SlIs M a 2 (VlL l)) {i : Nat} (hi : i < l.length) : ∃ p o, slAt a = some (p, o, l.length) ∧ MB.cellsAt (M.get p) (o + i * 2) 2 = some [.int 3 l[i].k, .int 3 l[i].n] := by
  obtain ⟨p, o, h1, h2⟩ := h.at_ (i := i) (by rw [vlL_len]; exact hi)
  rw [vlL_len] at h1
  refine ⟨p, o, h1, ?_⟩
  rw [h2]
  simp [VlL, VlR, hi]

theorem slots_arr (T : Tb) : ((VlL T.slots).take (2 + T.arr.length)).drop 2 = VlL T.arr := by
  have e : VlL T.slots = [VlR T.met, VlR ⟨3, (T.arr.length : Int)⟩] ++ (VlL T.arr ++ VlL (flatP T.prs)) := by simp [Tb.slots, VlL]
  rw [e, List.take_append]
  have e1 : 2 + T.arr.length - [VlR T.met, VlR ⟨3, (T.arr.length : Int)⟩].length = (VlL T.arr).length := by rw [vlL_len]; show 2 + _ - 2 = _; omega
  rw [e1, List.take_left, List.take_of_length_le (by show 2 ≤ _; omega)]
  rfl
theorem slots_prs (T : Tb) : ((VlL T.slots).take T.slots.length).drop (2 + T.arr.length) = VlL (flatP T.prs) := by
  rw [List.take_of_length_le (by rw [vlL_len]; exact Nat.le_refl _)]
  have e : VlL T.slots = ([VlR T.met, VlR ⟨3, (T.arr.length : Int)⟩] ++ VlL T.arr) ++ VlL (flatP T.prs) := by simp [Tb.slots, VlL]
  rw [e]
  have e1 : 2 + T.arr.length = ([VlR T.met, VlR ⟨3, (T.arr.length : Int)⟩] ++ VlL T.arr).length := by rw [List.length_append, vlL_len]; rfl
  rw [e1, List.drop_left]

def seqTail : Nat → CCode → CCode
  | n + 1, .seq _ b => seqTail n b
  | _, c => c

def seqHead : CCode → CCode
  | .seq a _ => a
  | c => c
theorem body0 : cf124.body = .seq (seqHead cf124.body) (.seq (seqHead (seqTail 1 cf124.body)) (.seq (seqHead (seqTail 2 cf124.body)) (.seq (seqHead (seqTail 3 cf124.body)) (seqTail 4 cf124.body)))) := rfl
theorem body4 : seqTail 4 cf124.body = .seq (seqHead (seqTail 4 cf124.body)) (.seq (seqHead (seqTail 5 cf124.body)) (.seq (seqHead (seqTail 6 cf124.body)) (seqTail 7 cf124.body))) := rfl

theorem posP_take (l : List (Vl × Vl)) {n : Nat} (hn : n < l.length) (hd : (l.map (·.1)).Nodup) : posP (l.take n) (l[n]).1 = none := by
  rw [posP, List.findIdx?_eq_none_iff]
  intro x hx
  obtain ⟨i, hi, rfl⟩ := List.getElem_of_mem hx
  rw [List.length_take] at hi
  rw [List.getElem_take]
  simp only [decide_eq_false_iff_not]
  intro e
  have h1 : (l.map (·.1))[i]'(by rw [List.length_map]; omega) = (l.map (·.1))[n]'(by rw [List.length_map]; omega) := by simpa using e
  have := (List.getElem_inj hd).1 h1
  omega
theorem posF_step (l : List (Vl × Vl)) {n : Nat} (hn : n < l.length) (hd : (l.map (·.1)).Nodup) : ∀ a, (∃ v, a = VlA v) → updF (posF (l.take n)) (VlA l[n].1) (some (.int 3 ((2 * n : Nat) : Int))) a = posF (l.take (n + 1)) a := by
  rintro a ⟨v, rfl⟩
  have hp : posP (l.take (n + 1)) v = match posP (l.take n) v with | some i => some i | none => if l[n].1 = v then some n else none := by
    rw [List.take_succ_eq_append_getElem hn, posP, List.findIdx?_append]
    have hl : (l.take n).length = n := by rw [List.length_take]; omega
    cases h : List.findIdx? (fun x => decide (x.1 = v)) (l.take n) with
    | some i => simp [posP, h]
    | none =>
      simp only [posP, h, Option.none_or]
      by_cases e : l[n].1 = v
      · simp [List.findIdx?_cons, e, hl]
      · simp [List.findIdx?_cons, e]
  by_cases e : v = l[n].1
  · subst e
    rw [updF_same]
    simp only [posF, unV_of, Option.bind_some, hp, posP_take l hn hd, if_true, Option.map_some]
  · have hne : VlA v ≠ VlA l[n].1 := fun h => e (by have := congrArg unV h; simpa [unV_of] using this)
    rw [updF_ne _ _ hne]
    simp only [posF, unV_of, Option.bind_some, hp]
    have e' : ¬ (l[n].1 = v) := fun h => e h.symm
    cases posP (l.take n) v <;> simp [e']

theorem parts_tail2 (D : DcT tbl) {M : Mem} {va vp : AV} {T : Tb} {fr : Tr AV} {Q : CR → Mem → Prop} (hw : M.wf) (hT : TbOk T) (s1 : SlIs M va 2 (VlL T.arr)) (s2 : SlIs M vp 2 (VlL (flatP T.prs))) (f1 : fr.get (.o (.o .h)) = some va) (f2 : fr.get (.i (.o .h)) = some vp)
    (hQ : ∀ a p mp M', SlIs M' a 2 (VlL T.arr) → SlIs M' p 2 (VlL (flatP T.prs)) → But (fun _ => False) M M' → (∃ es c, M'.get mp = some (.map es c) ∧ MapIs (.flat [.int, .int]) (fun a => ∃ v, a = VlA v) es (posF T.prs)) → Q (.ret (.tuple (.cons a (.cons p (.cons (.map mp) (.cons (.bool true) .nil)))))) M') :
    CCode.wp tbl (seqTail 7 cf124.body) fr M (finW cf124.results Q) := by
  have hn : T.slots.length = T.arr.length + 2 * T.prs.length + 2 := by simp only [Tb.slots, List.length_cons, List.length_append, flatP_len]
  have hb := hT.len
  have l1 : slLen va = some T.arr.length := by rw [s1.len, vlL_len]
  have l2 : slLen vp = some (2 * T.prs.length) := by rw [s2.len, vlL_len, flatP_len]
  have b0 := But.new (S := fun _ => False) hw (.map .nil 0)
  have w0 := hw.new (.map .nil 0)
  have x0 : (M.new (.map .nil 0)).get M.next = some (.map .nil 0) := by simp only [go_sem]
  simp only [go_sem, cf124, seqTail]
  refine loop_wp (I := fun n fr M' => n ≤ T.prs.length ∧ M'.wf ∧ But (fun _ => False) M M' ∧ (∃ es c, M'.get M.next = some (.map es c) ∧ MapIs (.flat [.int, .int]) (fun a => ∃ v, a = VlA v) es (posF (T.prs.take (T.prs.length - n)))) ∧ fr.get (.o (.o .h)) = some va ∧ fr.get (.i (.o .h)) = some vp ∧ fr.get (.o (.i .h)) = some (.map M.next) ∧ fr.get (.o (.i (.o .h))) = some (.int 3 ((2 * (T.prs.length - n) : Nat) : Int))) (n := T.prs.length) ?_ ?_
  · refine ⟨Nat.le_refl _, w0, b0, ⟨.nil, 0, x0, ?_⟩, by simp [Tr.get_set, f1], by simp [Tr.get_set, f2], by simp [Tr.get_set], by rw [Nat.sub_self, Tr.get_set]; rfl⟩
    rw [Nat.sub_self]
    exact MapIs.nil.congr fun a ha => by obtain ⟨v, rfl⟩ := ha; simp [posF, unV_of, posP]
  · rintro n fr M' ⟨i1, i2, i3, ⟨es, c, i4, i5⟩, f1, f2, f3, f4⟩
    cases n with
    | zero =>
      have g : decide (((2 * (T.prs.length - 0) : Nat) : Int) < ((2 * T.prs.length : Nat) : Int)) = false := by simp only [decide_eq_false_iff_not]; omega
      rw [Nat.sub_zero, List.take_length] at i5
      simp only [go_sem, f1, f2, f3, f4, l2, g]
      exact hQ _ _ _ _ (s1.old i3.old) (s2.old i3.old) i3 ⟨es, c, i4, i5⟩
    | succ n =>
      have g : decide (((2 * (T.prs.length - (n + 1)) : Nat) : Int) < ((2 * T.prs.length : Nat) : Int)) = true := by simp only [decide_eq_true_eq]; omega
      have hi : T.prs.length - (n + 1) < T.prs.length := by omega
      have hfl : (flatP T.prs).length = 2 * T.prs.length := flatP_len _
      obtain ⟨p, po, a1, a2⟩ := vl_at (s2.old i3.old) (i := 2 * (T.prs.length - (n + 1))) (by omega)
      rw [hfl] at a1
      have k1 := flatP_key T.prs hi
      rw [List.getElem?_eq_getElem (by omega)] at k1
      rw [Option.some.inj k1] at a2
      have hkey := hT.key _ (List.getElem_mem hi)
      have hstep := posF_step T.prs hi hT.once
      have hnone : posF (T.prs.take (T.prs.length - (n + 1))) (VlA (T.prs[T.prs.length - (n + 1)]).1) = none := by simp only [posF, unV_of, Option.bind_some, posP_take T.prs hi hT.once, Option.map_none]
      have k2 := flatP_val T.prs hi
      generalize hx : T.prs[T.prs.length - (n + 1)] = x at *
      obtain ⟨⟨xk, xn⟩, ⟨yk, yn⟩⟩ := x
      have hf := i5.find (VlA ⟨xk, xn⟩) ⟨_, rfl⟩
      rw [hnone] at hf
      simp only [VlA] at hf
      have g2 : 2 * (T.prs.length - (n + 1)) < 2 * T.prs.length := by omega
      have ne := i2.ne i4
      have hok : okKey (.flat [.int, .int]) (VlA ⟨xk, xn⟩) = true := MapIs.okKey goodVl ⟨_, rfl⟩
      simp only [VlA] at hok
      have b1 := But.fill i2 (.cells [.int 3 0, .int 3 0] false) (.cells [.int 3 xk, .int 3 xn] false)
      have w1 := i2.fill (.cells [.int 3 0, .int 3 0] false) (.cells [.int 3 xk, .int 3 xn] false)
      have x1 : ((M'.new (.cells [.int 3 0, .int 3 0] false)).put M'.next (.cells [.int 3 xk, .int 3 xn] false)).get M'.next = some (.cells [.int 3 xk, .int 3 xn] false) := by simp [Mem.put]
      simp only [go_sem, f1, f2, f3, f4, l2, g, g2, a1, a2, i4, ne, hf, hok]
      refine (key_spec D.h125 D.h117 D.h143 ⟨xk, xn⟩).use ?_
      rintro r M2 hw2 ⟨rfl, b2⟩
      rw [hkey.1]
      have d2 := (i3.trans b1).trans b2
      obtain ⟨p', po', a1', a2'⟩ := vl_at (s2.old d2.old) (i := 2 * (T.prs.length - (n + 1)) + 1) (by omega)
      rw [hfl] at a1'
      rw [a1] at a1'
      cases a1'
      rw [List.getElem?_eq_getElem (by omega)] at k2
      rw [Option.some.inj k2] at a2'
      have g3 : 2 * (T.prs.length - (n + 1)) + 1 < 2 * T.prs.length := by omega
      have e1 : IntKind.i64.wrap (((2 * (T.prs.length - (n + 1)) : Nat) : Int) + 1) = ((2 * (T.prs.length - (n + 1)) + 1 : Nat) : Int) := by rw [wrap64 (by omega) (by omega)]; omega
      simp only [go_sem, f1, f2, f4, e1, a1, g3, a2']
      refine (null_spec' D.h129 ⟨yk, yn⟩).use ?_
      rintro r M3 hw3 ⟨rfl, b3⟩
      have hnv : nullV ⟨yk, yn⟩ = false := by simp only [nullV, decide_eq_false_iff_not]; exact hkey.2.1
      rw [hnv]
      have x3 := (b2.trans b3).get _ _ id x1
      have e2 : IntKind.i64.wrap ((T.arr.length : Int) + 1) = (T.arr.length : Int) + 1 := wrap64 (by omega) (by omega)
      simp only [go_sem, f1, x3, l1, e2]
      refine (placed_spec D.h128 ⟨xk, xn⟩ _).use ?_
      rintro r M4 hw4 ⟨rfl, b4⟩
      rw [hkey.2.2]
      have d4 := (d2.trans b3).trans b4
      have x4 := b4.get _ _ id x3
      have m4 := ((b1.trans b2).trans (b3.trans b4)).get _ _ id i4
      obtain ⟨es', fr', p1, p2⟩ := i5.put goodVl (a := VlA ⟨xk, xn⟩) (v := .int 3 ((2 * (T.prs.length - (n + 1)) : Nat) : Int)) ⟨_, rfl⟩ c
      simp only [VlA] at p1
      have e3 : IntKind.i64.wrap (((2 * (T.prs.length - (n + 1)) : Nat) : Int) + 2) = ((2 * (T.prs.length - n) : Nat) : Int) := by rw [wrap64 (by omega) (by omega)]; omega
      simp only [go_sem, f3, f4, x4, m4, p1, e3, hok]
      have hn4 : M.next.num ≤ M.next.num := Nat.le_refl _
      have bp : But (fun p => p = M.next) M4 (M4.put M.next (.map es' (if fr' = true then c + 1 else c))) := But.put (S := fun p => p = M.next) (p := M.next) _ rfl _
      have bb : But (fun _ => False) M (M4.put M.next (.map es' (if fr' = true then c + 1 else c))) := But.fresh hw ((d4.any _).trans (bp.mono fun p e => .inr (by rw [e]; exact Nat.le_refl _)))
      refine ⟨n, by omega, by omega, hw4.put m4 _, bb, ⟨es', if fr' = true then c + 1 else c, by simp [Mem.put], ?_⟩, by simp [Tr.get_set, f1], by simp [Tr.get_set, f2], by simp [Tr.get_set, f3], by rw [Tr.get_set]; rfl⟩
      have e5 : T.prs.length - n = T.prs.length - (n + 1) + 1 := by omega
      rw [e5]
      exact p2.congr hstep

theorem parts_tail (D : DcT tbl) {M : Mem} {sv : AV} {T : Tb} {fr : Tr AV} {Q : CR → Mem → Prop} (hw : M.wf) (hs : CutSl M sv 2 (VlL T.slots)) (hT : TbOk T) (f1 : fr.get (.o .h) = some sv)
    (hQ : ∀ a p mp M', SlIs M' a 2 (VlL T.arr) → SlIs M' p 2 (VlL (flatP T.prs)) → But (fun _ => False) M M' → (∃ es c, M'.get mp = some (.map es c) ∧ MapIs (.flat [.int, .int]) (fun a => ∃ v, a = VlA v) es (posF T.prs)) → Q (.ret (.tuple (.cons a (.cons p (.cons (.map mp) (.cons (.bool true) .nil)))))) M') :
    CCode.wp tbl (seqTail 4 cf124.body) fr M (finW cf124.results Q) := by
  have hr := hs.1
  have hlen := hr.len
  rw [vlL_len] at hlen
  have hn : T.slots.length = T.arr.length + 2 * T.prs.length + 2 := by simp only [Tb.slots, List.length_cons, List.length_append, flatP_len]
  have hb := hT.len
  have g2 : (1 : Nat) < T.slots.length := by omega
  obtain ⟨q, qo, k1, k2⟩ := vl_at hr (i := 1) (by omega)
  have hs1 : T.slots[1]'(by omega) = ⟨3, (T.arr.length : Int)⟩ := rfl
  rw [hs1] at k2
  have d2 : MB.cell (M.get q) (qo + 1 * 2 + 1) = some (.int 3 T.arr.length) := by have := MB.cell_row k2 (j := 1) (by omega); simpa using this
  have hne : VlL T.slots ≠ [] := by intro e; have := congrArg List.length e; rw [vlL_len] at this; simp only [List.length_nil] at this; omega
  obtain ⟨va, p1, s1, hc1⟩ := hs.cut3 (by omega) (lo := 2) (hi := 2 + T.arr.length) (by omega) (by rw [vlL_len]; omega) hne
  obtain ⟨vp, p2, s2, hc2⟩ := hs.cut3 (by omega) (lo := 2 + T.arr.length) (hi := T.slots.length) (by omega) (by rw [vlL_len]; omega) hne
  rw [slots_arr] at s1
  rw [slots_prs] at s2
  have e2 : IntKind.i64.wrap (2 + (T.arr.length : Int)) = ((2 + T.arr.length : Nat) : Int) := by rw [wrap64 (by omega) (by omega)]; omega
  have l1 : slLen va = some T.arr.length := by rw [s1.len, vlL_len]
  have l2 : slLen vp = some (2 * T.prs.length) := by rw [s2.len, vlL_len, flatP_len]
  have e3 : arithI .rem 3 ((2 * T.prs.length : Nat) : Int) 2 = some (.int 3 0) := by
    show (if (2 : Int) = 0 then none else some (AV.int 3 (((2 * T.prs.length : Nat) : Int).tmod 2))) = _
    rw [if_neg (by decide), Int.tmod_eq_emod_of_nonneg (by omega)]
    have : ((2 * T.prs.length : Nat) : Int) % 2 = 0 := by omega
    rw [this]
  have g00 : ((0 : Int) != 0) = false := rfl
  have n2 : natO (AV.int 3 2) = some 2 := rfl
  have tail := fun (fr : Tr AV) (M2 : Mem) (h : M2.wf) (b : But (fun _ => False) M M2) (f1 : fr.get (.o (.o .h)) = some va) (f2 : fr.get (.i (.o .h)) = some vp) => parts_tail2 (Q := Q) D h hT (s1.old b.old) (s2.old b.old) f1 f2 (fun a p mp M' h1 h2 h3 h4 => hQ a p mp M' h1 h2 (b.trans h3) h4)
  rw [body4]
  generalize seqTail 7 cf124.body = tl at *
  by_cases ha : 0 < T.arr.length
  · have g0 : decide ((0 : Int) < (T.arr.length : Int)) = true := by simp only [decide_eq_true_eq]; omega
    have hm : T.arr.length - 1 < T.arr.length := by omega
    obtain ⟨q', qo', a1, a2⟩ := vl_at s1 (i := T.arr.length - 1) hm
    have e4 : IntKind.i64.wrap ((T.arr.length : Int) - 1) = ((T.arr.length - 1 : Nat) : Int) := by rw [wrap64 (by omega) (by omega)]; omega
    have hlast := hT.last (T.arr[T.arr.length - 1]) (by rw [List.getLast?_eq_getElem?]; exact List.getElem?_eq_getElem hm)
    have hnv : nullV T.arr[T.arr.length - 1] = false := by simp only [nullV, decide_eq_false_iff_not]; exact hlast
    simp only [go_sem, cf124, seqHead, seqTail, f1, k1, g2, d2, e2, hlen, n2, p1, p2, l1, l2, e3, g00, g0, e4, a1, a2, hm]
    refine (null_spec' D.h129 (T.arr[T.arr.length - 1])).use ?_
    rintro r M3 hw3 ⟨rfl, b3⟩
    rw [hnv]
    simp only [go_sem]
    refine tail _ _ hw3 b3 ?_ ?_
    · first | rfl | simp [Tr.get_set]
    · first | rfl | simp [Tr.get_set]
  · have g0 : decide ((0 : Int) < (T.arr.length : Int)) = false := by simp only [decide_eq_false_iff_not]; omega
    simp only [go_sem, cf124, seqHead, seqTail, f1, k1, g2, d2, e2, hlen, n2, p1, p2, l1, l2, e3, g00, g0]
    refine tail _ _ hw (But.refl _ _) ?_ ?_
    · first | rfl | simp [Tr.get_set]
    · first | rfl | simp [Tr.get_set]

theorem parts_spec (D : DcT tbl) {M : Mem} {sv : AV} {T : Tb} (hs : CutSl M sv 2 (VlL T.slots)) (hT : TbOk T) :
    CallW tbl 124 (.cons sv .nil) M fun r M' => ∃ a p mp, r = .ret (.tuple (.cons a (.cons p (.cons (.map mp) (.cons (.bool true) .nil))))) ∧ But (fun _ => False) M M' ∧ SlIs M' a 2 (VlL T.arr) ∧ SlIs M' p 2 (VlL (flatP T.prs)) ∧ ∃ es c, M'.get mp = some (.map es c) ∧ MapIs (.flat [.int, .int]) (fun a => ∃ v, a = VlA v) es (posF T.prs) := by
  refine CallW.wf fun hw => ?_
  refine CallW.intro D.h124 rfl (fr := .nod (.val .leaf sv .leaf) .leaf) rfl ?_
  have hr := hs.1
  have hlen := hr.len
  rw [vlL_len] at hlen
  have hn : T.slots.length = T.arr.length + 2 * T.prs.length + 2 := by simp only [Tb.slots, List.length_cons, List.length_append, flatP_len]
  have hb := hT.len
  obtain ⟨p, po, a1, a2⟩ := vl_at hr (i := 1) (by omega)
  have hs1 : T.slots[1]'(by omega) = ⟨3, (T.arr.length : Int)⟩ := rfl
  rw [hs1] at a2
  obtain ⟨p', po', a1', a3⟩ := vl_at hr (i := 0) (by omega)
  rw [a1] at a1'
  cases a1'
  have hs0 : T.slots[0]'(by omega) = T.met := rfl
  rw [hs0] at a3
  have c1 : MB.cell (M.get p) (po + 1 * 2 + 0) = some (.int 3 3) := by have := MB.cell_row a2 (j := 0) (by omega); simpa using this
  have c2 : MB.cell (M.get p) (po + 1 * 2 + 1) = some (.int 3 T.arr.length) := by have := MB.cell_row a2 (j := 1) (by omega); simpa using this
  have c3 : MB.cell (M.get p) (po + 0 * 2 + 0) = some (.int 3 T.met.k) := by have := MB.cell_row a3 (j := 0) (by omega); simpa using this
  have g1 : decide (((T.slots.length : Nat) : Int) < 2) = false := by simp only [decide_eq_false_iff_not]; omega
  have g2 : (1 : Nat) < T.slots.length := by omega
  have g3 : (0 : Nat) < T.slots.length := by omega
  have g4 : decide (((T.arr.length : Nat) : Int) < 0) = false := by simp only [decide_eq_false_iff_not]; omega
  have e1 : IntKind.i64.wrap (((T.slots.length : Nat) : Int) - 2) = (T.slots.length : Int) - 2 := wrap64 (by omega) (by omega)
  have g5 : decide (((T.slots.length : Nat) : Int) - 2 < (T.arr.length : Int)) = false := by simp only [decide_eq_false_iff_not]; omega
  have g33 : ((3 : Int) != 3) = false := rfl
  have tail := fun (fr : Tr AV) (M2 : Mem) (h : M2.wf) (b12 : But (fun _ => False) M M2) (f1 : fr.get (.o .h) = some sv) => parts_tail (Q := fun r M' => ∃ a p mp, r = .ret (.tuple (.cons a (.cons p (.cons (.map mp) (.cons (.bool true) .nil))))) ∧ But (fun _ => False) M M' ∧ SlIs M' a 2 (VlL T.arr) ∧ SlIs M' p 2 (VlL (flatP T.prs)) ∧ ∃ es c, M'.get mp = some (.map es c) ∧ MapIs (.flat [.int, .int]) (fun a => ∃ v, a = VlA v) es (posF T.prs)) D h (hs.quiet b12) hT f1 (fun a p mp M' h1 h2 h3 h4 => ⟨a, p, mp, rfl, b12.trans h3, h1, h2, h4⟩)
  rw [body0]
  generalize seqTail 4 cf124.body = tl at *
  simp only [go_sem, cf124, seqHead, seqTail, hlen, g1, g2, g3, a1, c1, c2, c3, g4, g5, e1, g33]
  refine (contains_none0 D.h121 D.h145 hr (by omega) (fun v hv M' hw' b' => bad_spec D.h146 D.h117 D.h143 (hT.may v hv).1 (hT.may v hv).2)).use ?_
  rintro r M1 hw1 ⟨rfl, b1⟩
  obtain ⟨q, qo, k1, a3'⟩ := vl_at (hr.old b1.old) (i := 0) (by omega)
  rw [a1] at k1
  cases k1
  rw [hs0] at a3'
  have a3'' : MB.cellsAt (M1.get p) (po + 0) 2 = some [.int 3 T.met.k, .int 3 T.met.n] := by
    have e : po + 0 * 2 = po + 0 := by omega
    rw [e] at a3'
    exact a3'
  simp only [go_sem, g3, a1, a3'']
  refine (null_spec' D.h129 T.met).use ?_
  rintro r M2 hw2 ⟨rfl, b2⟩
  have b12 := b1.trans b2
  rcases hT.met with hm | hm
  · have hnv : nullV T.met = true := by simp [nullV, hm]
    rw [hnv]
    simp only [go_sem]
    refine tail _ _ hw2 b12 ?_
    first | rfl | simp [Tr.get_set]
  · have hnv : nullV T.met = false := by simp only [nullV, decide_eq_false_iff_not]; intro e; rw [e] at hm; exact absurd hm (by decide)
    obtain ⟨q, qo, k1, k3⟩ := vl_at (hr.old b12.old) (i := 0) (by omega)
    rw [a1] at k1
    cases k1
    rw [hs0] at k3
    have d3 : MB.cell (M2.get p) (po + 0 + 0) = some (.int 3 T.met.k) := by
      have h := MB.cell_row k3 (j := 0) (by omega)
      have e : po + 0 * 2 + 0 = po + 0 + 0 := by omega
      rw [e] at h
      simpa using h
    have g6 : (T.met.k != 6) = false := by simp [hm]
    rw [hnv]
    simp only [go_sem, a1, g3, d3, g6]
    refine tail _ _ hw2 b12 ?_
    first | rfl | simp [Tr.get_set]
end Go.Proofs.Ythpnhdopheofcaa

end
section
namespace Go.Proofs.Ythpnhdopheofcaa
open Go.Dx
variable {tbl : Nat → Option CFunc}

theorem check_ok (D : DcT tbl) (h : tbl 131 = some cf131) {M : Mem} {sv : AV} {T : Tb} (hs : CutSl M sv 2 (VlL T.slots)) (hT : TbOk T) :
    CallW tbl 131 (.cons sv .nil) M fun r M' => r = .ret (.bool true) ∧ But (fun _ => False) M M' := by
  refine CallW.intro h rfl (fr := .nod (.val .leaf sv .leaf) .leaf) rfl ?_
  simp only [go_sem, cf131]
  refine (parts_spec D hs hT).use ?_
  rintro r M1 hw1 ⟨a, p, mp, rfl, b, _⟩
  simp only [go_sem]
  first | exact b | exact ⟨rfl, b⟩

theorem dlen_ok (D : DcT tbl) (h : tbl 98 = some cf98) {M : Mem} {sv : AV} {T : Tb} (hs : CutSl M sv 2 (VlL T.slots)) (hT : TbOk T) :
    CallW tbl 98 (.cons sv .nil) M fun r M' => r = .ret (.int 3 T.arr.length) ∧ But (fun _ => False) M M' := by
  refine CallW.intro h rfl (fr := .nod (.val .leaf sv .leaf) .leaf) rfl ?_
  simp only [go_sem, cf98]
  refine (parts_spec D hs hT).use ?_
  rintro r M1 hw1 ⟨a, p, mp, rfl, b, s1, s2, es, c, m1, m2⟩
  have l1 : slLen a = some T.arr.length := by rw [s1.len, vlL_len]
  simp only [go_sem, l1]
  first | exact b | exact ⟨rfl, b⟩

/-- What a table has under a key. -/
def Tb.get (T : Tb) (k : Vl) : Vl :=
  if placedV k T.arr.length = true then (T.arr[(k.n - 1).toNat]?).getD ⟨1, 0⟩
  else match posP T.prs k with | some i => ((T.prs[i]?).map (·.2)).getD ⟨1, 0⟩ | none => ⟨1, 0⟩

theorem posP_lt {l : List (Vl × Vl)} {k : Vl} {i : Nat} (h : posP l k = some i) : i < l.length := by
  unfold posP at h
  exact (List.findIdx?_eq_some_iff_getElem.1 h).1

theorem dget_ok (D : DcT tbl) (h : tbl 93 = some cf93) {M : Mem} {sv : AV} {T : Tb} {k : Vl} (hs : CutSl M sv 2 (VlL T.slots)) (hT : TbOk T) :
    CallW tbl 93 (.cons sv (.cons (VlA k) .nil)) M fun r M' => r = .ret (VlA (T.get k)) ∧ But (fun _ => False) M M' := by
  refine CallW.wf fun hw => ?_
  have hn : T.slots.length = T.arr.length + 2 * T.prs.length + 2 := by simp only [Tb.slots, List.length_cons, List.length_append, flatP_len]
  have hb := hT.len
  cases hg : T.get k with
  | mk gk gn =>
  obtain ⟨kk, kn⟩ := k
  refine CallW.intro h rfl (fr := .nod (.val .leaf sv .leaf) (.val .leaf (VlA ⟨kk, kn⟩) .leaf)) rfl ?_
  have b1 := But.new (S := fun _ => False) hw (.cells [.int 3 kk, .int 3 kn] false)
  have w1 := hw.new (.cells [.int 3 kk, .int 3 kn] false)
  have b2 := But.new (S := fun _ => False) w1 (.cells [.int 3 0, .int 3 0] false)
  have x1 : ((M.new (.cells [.int 3 kk, .int 3 kn] false)).new (.cells [.int 3 0, .int 3 0] false)).get M.next = some (.cells [.int 3 kk, .int 3 kn] false) := by simp only [go_sem]
  have x2 : ((M.new (.cells [.int 3 kk, .int 3 kn] false)).new (.cells [.int 3 0, .int 3 0] false)).get M.next.succ = some (.cells [.int 3 0, .int 3 0] false) := by simp only [go_sem]
  simp only [go_sem, cf93, VlA]
  refine (parts_spec D (hs.quiet (b1.trans b2)) hT).use ?_
  rintro r M1 hw1 ⟨a, p, mp, rfl, b3, s1, s2, es, c, m1, m2⟩
  have l1 : slLen a = some T.arr.length := by rw [s1.len, vlL_len]
  have l2 : slLen p = some (2 * T.prs.length) := by rw [s2.len, vlL_len, flatP_len]
  have y1 := b3.get _ _ id x1
  have y2 := b3.get _ _ id x2
  simp only [go_sem, l1, y1]
  refine (placed_spec D.h128 ⟨kk, kn⟩ _).use ?_
  rintro r M2 hw2 ⟨rfl, b4⟩
  have z1 := b4.get _ _ id y1
  have z2 := b4.get _ _ id y2
  have m3 := b4.get _ _ id m1
  have bb := ((b1.trans b2).trans b3).trans b4
  have fin : ∀ x y : Int, But (fun _ => False) M (M2.put M.next.succ (.cells [.int 3 x, .int 3 y] false)) := fun x y => But.fresh (S := fun _ => False) hw ((bb.any _).trans (But.put (S := fun p => False ∨ M.next.num ≤ p.num) (p := M.next.succ) _ (.inr (by rw [Pos.num_succ]; omega)) _))
  cases hp : placedV ⟨kk, kn⟩ T.arr.length with
  | true =>
    have hp' := hp
    simp only [placedV, Bool.and_eq_true, decide_eq_true_eq] at hp'
    obtain ⟨q1, q2, q3⟩ := hp'
    have hj : (kn - 1).toNat < T.arr.length := by omega
    have e1 : IntKind.i64.wrap (kn - 1) = (((kn - 1).toNat : Nat) : Int) := by rw [wrap64 (by omega) (by omega)]; omega
    obtain ⟨q, qo, a1, a2⟩ := vl_at (s1.old b4.old) (i := (kn - 1).toNat) hj
    have hv : T.arr[(kn - 1).toNat] = ⟨gk, gn⟩ := by
      rw [← hg]
      simp only [Tb.get, hp, if_true, List.getElem?_eq_getElem hj, Option.getD_some]
    rw [hv] at a2
    simp only [go_sem, l1, z1, z2, e1, a1, a2, hj]
    exact fin _ _
  | false =>
    have hf := m2.find (VlA ⟨kk, kn⟩) ⟨_, rfl⟩
    have hok : okKey (.flat [.int, .int]) (VlA ⟨kk, kn⟩) = true := MapIs.okKey goodVl ⟨_, rfl⟩
    simp only [VlA] at hok
    have hg' : Tb.get T ⟨kk, kn⟩ = (match posP T.prs ⟨kk, kn⟩ with | some i => ((T.prs[i]?).map (·.2)).getD ⟨1, 0⟩ | none => ⟨1, 0⟩) := by simp only [Tb.get, hp]; rfl
    cases hpos : posP T.prs ⟨kk, kn⟩ with
    | none =>
      have hf' : es.find (.flat [.int, .int]) (VlA ⟨kk, kn⟩) = some none := by rw [hf]; simp [posF, unV_of, hpos]
      simp only [VlA] at hf'
      rw [hpos] at hg'
      rw [hg] at hg'
      cases hg'
      simp only [go_sem, z1, z2, m3, hok, hf']
      exact fin _ _
    | some i =>
      have hi := posP_lt hpos
      have hf' : es.find (.flat [.int, .int]) (VlA ⟨kk, kn⟩) = some (some (.int 3 ((2 * i : Nat) : Int))) := by rw [hf]; simp [posF, unV_of, hpos]
      simp only [VlA] at hf'
      rw [hpos] at hg'
      simp only [List.getElem?_eq_getElem hi, Option.map_some, Option.getD_some] at hg'
      have hfl : (flatP T.prs).length = 2 * T.prs.length := flatP_len _
      obtain ⟨q, qo, a1, a2⟩ := vl_at (s2.old b4.old) (i := 2 * i + 1) (by omega)
      rw [hfl] at a1
      have k2 := flatP_val T.prs hi
      rw [List.getElem?_eq_getElem (by omega)] at k2
      rw [Option.some.inj k2, ← hg', hg] at a2
      have e1 : IntKind.i64.wrap (((2 * i : Nat) : Int) + 1) = ((2 * i + 1 : Nat) : Int) := by rw [wrap64 (by omega) (by omega)]; omega
      have g3 : 2 * i + 1 < 2 * T.prs.length := by omega
      simp only [go_sem, z1, z2, m3, hok, hf', e1, a1, a2, g3, l2]
      exact fin _ _
end Go.Proofs.Ythpnhdopheofcaa

end
section
namespace Go.Proofs.Ythpnhdopheofcaa
open Go.Dx
variable {tbl : Nat → Option CFunc}

/-- The first place from one on that is not empty. -/
def scanN (arr : List Vl) : Nat → Nat → Option Nat
  | 0, _ => none
  | n + 1, i => if nullV ((arr[i]?).getD ⟨1, 0⟩) = true then scanN arr n (i + 1) else some i
def Tb.keyAt (T : Tb) (b : Nat) : Vl := ((T.prs[b]?).map (·.1)).getD ⟨1, 0⟩
def Tb.nextV (T : Tb) (from_ b : Nat) : Vl := match scanN T.arr (T.arr.length - from_) from_ with | some i => ⟨3, (i : Int) + 1⟩ | none => T.keyAt b

theorem body95 : cf95.body = .seq (seqHead cf95.body) (.seq (seqHead (seqTail 1 cf95.body)) (.seq (seqHead (seqTail 2 cf95.body)) (.seq (seqHead (seqTail 3 cf95.body)) (.seq (seqHead (seqTail 4 cf95.body)) (seqTail 5 cf95.body))))) := rfl

theorem next_tail (D : DcT tbl) (h123 : tbl 123 = some cf123) {M : Mem} {va vp : AV} {T : Tb} {fr : Tr AV} {Q : CR → Mem → Prop} {from_ b : Nat} {rc : Pos} (hw : M.wf) (hT : TbOk T) (hfrom : from_ ≤ T.arr.length) (hbl : b ≤ T.prs.length) (s1 : SlIs M va 2 (VlL T.arr)) (s2 : SlIs M vp 2 (VlL (flatP T.prs))) (x : M.get rc = some (.cells [.int 3 0, .int 3 0] false))
    (f1 : fr.get (.o (.o (.o .h))) = some va) (f2 : fr.get (.i (.o (.o .h))) = some vp) (f3 : fr.get (.o (.o (.i .h))) = some (.int 3 from_)) (f4 : fr.get (.i (.o (.i .h))) = some (.int 3 ((2 * b : Nat) : Int))) (f5 : fr.get (.o (.i .h)) = some (.ptr rc 0))
    (hQ : ∀ M', But (fun p => p = rc) M M' → Q (.ret (.tuple (.cons (VlA (T.nextV from_ b)) (.cons (.int 3 0) .nil)))) M') :
    CCode.wp tbl (seqTail 5 cf95.body) fr M (finW cf95.results Q) := by
  have hn : T.slots.length = T.arr.length + 2 * T.prs.length + 2 := by simp only [Tb.slots, List.length_cons, List.length_append, flatP_len]
  have hb := hT.len
  have l1 : slLen va = some T.arr.length := by rw [s1.len, vlL_len]
  have l2 : slLen vp = some (2 * T.prs.length) := by rw [s2.len, vlL_len, flatP_len]
  simp only [go_sem, cf95, seqTail, f3]
  refine loop_wp (I := fun n fr M' => n ≤ T.arr.length - from_ ∧ M'.wf ∧ But (fun _ => False) M M' ∧ scanN T.arr n (T.arr.length - n) = scanN T.arr (T.arr.length - from_) from_ ∧ fr.get (.o (.o (.o .h))) = some va ∧ fr.get (.i (.o (.o .h))) = some vp ∧ fr.get (.i (.o (.i .h))) = some (.int 3 ((2 * b : Nat) : Int)) ∧ fr.get (.o (.i .h)) = some (.ptr rc 0) ∧ fr.get (.o (.o (.o (.o .h)))) = some (.int 3 ((T.arr.length - n : Nat) : Int))) (n := T.arr.length - from_) ?_ ?_
  · refine ⟨Nat.le_refl _, hw, But.refl _ _, by rw [show T.arr.length - (T.arr.length - from_) = from_ by omega], by simp [Tr.get_set, f1], by simp [Tr.get_set, f2], by simp [Tr.get_set, f4], by simp [Tr.get_set, f5], ?_⟩
    rw [show T.arr.length - (T.arr.length - from_) = from_ by omega, Tr.get_set]; rfl
  · clear f1 f2 f3 f4 f5
    rintro n fr M' ⟨i1, i2, i3, i4, f1, f2, f4, f5, f6⟩
    have x' := i3.get _ _ id x
    cases n with
    | zero =>
      have g : decide (((T.arr.length - 0 : Nat) : Int) < (T.arr.length : Int)) = false := by simp only [decide_eq_false_iff_not]; omega
      have hnx : T.nextV from_ b = T.keyAt b := by simp only [Tb.nextV, ← i4, scanN]
      by_cases hbb : b < T.prs.length
      · have g2 : decide (((2 * b : Nat) : Int) < ((2 * T.prs.length : Nat) : Int)) = true := by simp only [decide_eq_true_eq]; omega
        have hfl : (flatP T.prs).length = 2 * T.prs.length := flatP_len _
        obtain ⟨q, qo, a1, a2⟩ := vl_at (s2.old i3.old) (i := 2 * b) (by omega)
        rw [hfl] at a1
        have k2 := flatP_key T.prs hbb
        rw [List.getElem?_eq_getElem (by omega)] at k2
        have hk : T.keyAt b = T.prs[b].1 := by simp only [Tb.keyAt, List.getElem?_eq_getElem hbb, Option.map_some, Option.getD_some]
        rw [Option.some.inj k2, ← hk] at a2
        rw [hnx] at hQ
        cases hkk : T.keyAt b with
        | mk yk yn =>
        rw [hkk] at a2 hQ
        have g3 : 2 * b < 2 * T.prs.length := by omega
        simp only [go_sem, f1, f2, f4, f5, f6, l1, l2, g, g2, g3, a1, a2, x']
        exact hQ _ ((i3.any _).trans (But.put (S := fun p => p = rc) (p := rc) _ rfl _))
      · have g2 : decide (((2 * b : Nat) : Int) < ((2 * T.prs.length : Nat) : Int)) = false := by simp only [decide_eq_false_iff_not]; omega
        have hk : T.keyAt b = ⟨1, 0⟩ := by simp only [Tb.keyAt, List.getElem?_eq_none (by omega : T.prs.length ≤ b), Option.map_none, Option.getD_none]
        rw [hnx, hk] at hQ
        simp only [go_sem, f1, f2, f4, f5, f6, l1, l2, g, g2, x']
        exact hQ _ ((i3.any _).trans (But.put (S := fun p => p = rc) (p := rc) _ rfl _))
    | succ n =>
      have g : decide (((T.arr.length - (n + 1) : Nat) : Int) < (T.arr.length : Int)) = true := by simp only [decide_eq_true_eq]; omega
      have hi : T.arr.length - (n + 1) < T.arr.length := by omega
      obtain ⟨q, qo, a1, a2⟩ := vl_at (s1.old i3.old) (i := T.arr.length - (n + 1)) hi
      simp only [go_sem, f1, f2, f4, f5, f6, l1, g, hi, a1, a2]
      refine (null_spec' D.h129 (T.arr[T.arr.length - (n + 1)])).use ?_
      rintro r M2 hw2 ⟨rfl, b2⟩
      have e1 : IntKind.i64.wrap (((T.arr.length - (n + 1) : Nat) : Int) + 1) = ((T.arr.length - (n + 1) + 1 : Nat) : Int) := by rw [wrap64 (by omega) (by omega)]; omega
      simp only [scanN, List.getElem?_eq_getElem hi, Option.getD_some] at i4
      cases hv : nullV T.arr[T.arr.length - (n + 1)] with
      | true =>
        rw [hv] at i4
        simp only [if_true] at i4
        simp only [go_sem, f1, f2, f4, f5, f6, e1]
        refine ⟨n, by omega, by omega, hw2, i3.trans b2, ?_, by simp [Tr.get_set, f1], by simp [Tr.get_set, f2], by simp [Tr.get_set, f4], by simp [Tr.get_set, f5], ?_⟩
        · rw [show T.arr.length - n = T.arr.length - (n + 1) + 1 by omega]; exact i4
        · rw [show T.arr.length - n = T.arr.length - (n + 1) + 1 by omega, Tr.get_set]; rfl
      | false =>
        rw [hv] at i4
        simp only [Bool.false_eq_true, if_false] at i4
        have hnx : T.nextV from_ b = ⟨3, ((T.arr.length - (n + 1) : Nat) : Int) + 1⟩ := by simp only [Tb.nextV, ← i4]
        rw [hnx] at hQ
        simp only [go_sem, f1, f2, f4, f5, f6, e1]
        refine (integer_spec h123 _).use ?_
        rintro r M3 hw3 ⟨rfl, b3⟩
        have x3 := (b2.trans b3).get _ _ id x'
        simp only [go_sem, VlA, f5, x3]
        have hh := hQ (M3.put rc (.cells [.int 3 3, .int 3 ((T.arr.length - (n + 1) + 1 : Nat) : Int)] false)) ((((i3.trans b2).trans b3).any _).trans (But.put (S := fun p => p = rc) (p := rc) _ rfl _))
        exact hh
end Go.Proofs.Ythpnhdopheofcaa

end
section
namespace Go.Proofs.Ythpnhdopheofcaa
open Go.Dx
variable {tbl : Nat → Option CFunc}

/-- Where Next begins to look. -/
def Tb.start (T : Tb) (k : Vl) : Option (Nat × Nat) :=
  match posP T.prs k with
  | some i => some (T.arr.length, i + 1)
  | none => if placedV k T.arr.length = true then some (k.n.toNat, 0) else if nullV k = true then some (0, 0) else none

theorem dnext_ok (D : DcT tbl) (h95 : tbl 95 = some cf95) (h123 : tbl 123 = some cf123) {M : Mem} {sv : AV} {T : Tb} {k : Vl} {a b : Nat} (hs : CutSl M sv 2 (VlL T.slots)) (hT : TbOk T) (hk : mayV k = true) (hk0 : k.k ≠ 0) (hst : T.start k = some (a, b)) :
    CallW tbl 95 (.cons sv (.cons (VlA k) .nil)) M fun r M' => r = .ret (.tuple (.cons (VlA (T.nextV a b)) (.cons (.int 3 0) .nil))) ∧ But (fun _ => False) M M' := by
  refine CallW.wf fun hw => ?_
  have hn : T.slots.length = T.arr.length + 2 * T.prs.length + 2 := by simp only [Tb.slots, List.length_cons, List.length_append, flatP_len]
  have hb := hT.len
  obtain ⟨kk, kn⟩ := k
  refine CallW.intro h95 rfl (fr := .nod (.val .leaf sv .leaf) (.val .leaf (VlA ⟨kk, kn⟩) .leaf)) rfl ?_
  have b1 := But.new (S := fun _ => False) hw (.cells [.int 3 kk, .int 3 kn] false)
  have w1 := hw.new (.cells [.int 3 kk, .int 3 kn] false)
  have b2 := But.new (S := fun _ => False) w1 (.cells [.int 3 0, .int 3 0] false)
  have x1 : ((M.new (.cells [.int 3 kk, .int 3 kn] false)).new (.cells [.int 3 0, .int 3 0] false)).get M.next = some (.cells [.int 3 kk, .int 3 kn] false) := by simp only [go_sem]
  have x2 : ((M.new (.cells [.int 3 kk, .int 3 kn] false)).new (.cells [.int 3 0, .int 3 0] false)).get M.next.succ = some (.cells [.int 3 0, .int 3 0] false) := by simp only [go_sem]
  have tail := fun (va vp : AV) (fr : Tr AV) (M2 : Mem) (h : M2.wf) (hab : a ≤ T.arr.length ∧ b ≤ T.prs.length) (b12 : But (fun _ => False) M M2) (s1 : SlIs M2 va 2 (VlL T.arr)) (s2 : SlIs M2 vp 2 (VlL (flatP T.prs))) (x : M2.get M.next.succ = some (.cells [.int 3 0, .int 3 0] false)) f1 f2 f3 f4 f5 =>
    next_tail (Q := fun r M' => r = .ret (.tuple (.cons (VlA (T.nextV a b)) (.cons (.int 3 0) .nil))) ∧ But (fun _ => False) M M') (fr := fr) D h123 h hT hab.1 hab.2 s1 s2 x f1 f2 f3 f4 f5 (fun M' bb => ⟨rfl, But.fresh hw ((b12.any _).trans (bb.mono fun p e => .inr (by rw [e, Pos.num_succ]; omega)))⟩)
  rw [body95]
  generalize seqTail 5 cf95.body = tl at *
  simp only [go_sem, cf95, seqHead, seqTail, VlA]
  refine (parts_spec D (hs.quiet (b1.trans b2)) hT).use ?_
  rintro r M1 hw1 ⟨va, vp, mp, rfl, b3, s1, s2, es, c, m1, m2⟩
  have l1 : slLen va = some T.arr.length := by rw [s1.len, vlL_len]
  have y1 := b3.get _ _ id x1
  have y2 := b3.get _ _ id x2
  simp only [go_sem, y1]
  refine (may_spec D.h117 D.h143 (v := ⟨kk, kn⟩)).use ?_
  rintro r M2 hw2 ⟨rfl, b4⟩
  have z1 := b4.get _ _ id y1
  have z2 := b4.get _ _ id y2
  have m3 := b4.get _ _ id m1
  have hf := m2.find (VlA ⟨kk, kn⟩) ⟨_, rfl⟩
  have hok : okKey (.flat [.int, .int]) (VlA ⟨kk, kn⟩) = true := MapIs.okKey goodVl ⟨_, rfl⟩
  simp only [VlA] at hok
  have g0 : (kk == 0) = false := by simpa using hk0
  have bb := ((b1.trans b2).trans b3).trans b4
  cases hpos : posP T.prs ⟨kk, kn⟩ with
  | some i =>
    have hi := posP_lt hpos
    have hf' : es.find (.flat [.int, .int]) (VlA ⟨kk, kn⟩) = some (some (.int 3 ((2 * i : Nat) : Int))) := by rw [hf]; simp [posF, unV_of, hpos]
    simp only [VlA] at hf'
    simp only [Tb.start, hpos, Option.some.injEq, Prod.mk.injEq] at hst
    obtain ⟨rfl, rfl⟩ := hst
    have e1 : IntKind.i64.wrap (((2 * i : Nat) : Int) + 2) = ((2 * (i + 1) : Nat) : Int) := by rw [wrap64 (by omega) (by omega)]; omega
    simp only [go_sem, hk, z1, m3, hok, hf', g0, l1, e1]
    refine tail va vp _ M2 hw2 ⟨Nat.le_refl _, by omega⟩ bb (s1.old b4.old) (s2.old b4.old) z2 ?_ ?_ ?_ ?_ ?_ <;> rfl
  | none =>
    have hf' : es.find (.flat [.int, .int]) (VlA ⟨kk, kn⟩) = some none := by rw [hf]; simp [posF, unV_of, hpos]
    simp only [VlA] at hf'
    simp only [Tb.start, hpos] at hst
    simp only [go_sem, hk, z1, m3, hok, hf', g0, l1]
    refine (placed_spec D.h128 ⟨kk, kn⟩ _).use ?_
    rintro r M3 hw3 ⟨rfl, b5⟩
    have z3 := b5.get _ _ id z1
    have z4 := b5.get _ _ id z2
    cases hp : placedV ⟨kk, kn⟩ T.arr.length with
    | true =>
      rw [hp] at hst
      simp only [if_true, Option.some.injEq, Prod.mk.injEq] at hst
      obtain ⟨rfl, rfl⟩ := hst
      have hp' := hp
      simp only [placedV, Bool.and_eq_true, decide_eq_true_eq] at hp'
      obtain ⟨q1, q2, q3⟩ := hp'
      have e1 : (kn : Int) = ((kn.toNat : Nat) : Int) := by omega
      simp only [go_sem, z3]
      refine tail va vp _ M3 hw3 ⟨by show kn.toNat ≤ _; omega, Nat.zero_le _⟩ (bb.trans b5) ((s1.old b4.old).old b5.old) ((s2.old b4.old).old b5.old) z4 ?_ ?_ ?_ ?_ ?_
      · rfl
      · rfl
      · rw [← e1]; rfl
      · rfl
      · rfl
    | false =>
      rw [hp] at hst
      simp only [Bool.false_eq_true, if_false] at hst
      simp only [go_sem, z3]
      refine (null_spec' D.h129 ⟨kk, kn⟩).use ?_
      rintro r M4 hw4 ⟨rfl, b6⟩
      cases hv : nullV ⟨kk, kn⟩ with
      | false => rw [hv] at hst; simp at hst
      | true =>
        rw [hv] at hst
        simp only [if_true, Option.some.injEq, Prod.mk.injEq] at hst
        obtain ⟨rfl, rfl⟩ := hst
        simp only [go_sem]
        refine tail va vp _ M4 hw4 ⟨Nat.zero_le _, Nat.zero_le _⟩ ((bb.trans b5).trans b6) (((s1.old b4.old).old b5.old).old b6.old) (((s2.old b4.old).old b5.old).old b6.old) (b6.get _ _ id z4) ?_ ?_ ?_ ?_ ?_ <;> rfl
end Go.Proofs.Ythpnhdopheofcaa

end
section
namespace Go.Proofs.Ythpnhdopheofcaa
open Go.Dx
variable {tbl : Nat → Option CFunc}

def posI (l : List (Vl × Vl)) (k : Vl) : Int := match posP l k with | some i => ((2 * i : Nat) : Int) | none => -1
theorem posP_at {l : List (Vl × Vl)} {k : Vl} {n : Nat} (hn : n < l.length) (h0 : posP (l.take n) k = none) (e : l[n].1 = k) : posP l k = some n := by
  unfold posP at h0 ⊢
  rw [List.findIdx?_eq_some_iff_getElem]
  refine ⟨hn, by simpa using e, fun j hj => ?_⟩
  rw [List.findIdx?_eq_none_iff] at h0
  have := h0 (l[j]'(by omega)) (List.mem_take_iff_getElem.2 ⟨j, by omega, rfl⟩)
  simpa using this
theorem posP_step {l : List (Vl × Vl)} {k : Vl} {n : Nat} (hn : n < l.length) (h0 : posP (l.take n) k = none) (e : l[n].1 ≠ k) : posP (l.take (n + 1)) k = none := by
  unfold posP at h0 ⊢
  rw [List.findIdx?_eq_none_iff] at h0 ⊢
  intro x hx
  rw [List.take_succ_eq_append_getElem hn] at hx
  rcases List.mem_append.1 hx with h | h
  · exact h0 x h
  · rw [List.mem_singleton.1 h]; simpa using e

theorem find_spec (h : tbl 148 = some cf148) {M : Mem} {tp : Pos} {va vp vg : AV} {op : Bool} {l : List (Vl × Vl)} {k : Vl} (hb : l.length ≤ 2 ^ 20) (ht : M.get tp = some (.cells [va, vp, vg] op)) (hs : SlIs M vp 2 (VlL (flatP l))) :
    CallW tbl 148 (.cons (.ptr tp 0) (.cons (VlA k) .nil)) M fun r M' => r = .ret (.int 3 (posI l k)) ∧ But (fun _ => False) M M' := by
  refine CallW.wf fun hw => ?_
  cases hkk : k with
  | mk kk kn =>
  refine CallW.intro h rfl (fr := .nod (.val .leaf (.ptr tp 0) .leaf) (.val .leaf (VlA ⟨kk, kn⟩) .leaf)) rfl ?_
  have b1 := But.new (S := fun _ => False) hw (.cells [.int 3 kk, .int 3 kn] false)
  have x1 : (M.new (.cells [.int 3 kk, .int 3 kn] false)).get M.next = some (.cells [.int 3 kk, .int 3 kn] false) := by simp only [go_sem]
  have t1 := b1.get _ _ id ht
  have l2 : slLen vp = some (2 * l.length) := by rw [hs.len, vlL_len, flatP_len]
  simp only [go_sem, cf148, VlA]
  generalize hM1 : M.new (.cells [.int 3 kk, .int 3 kn] false) = M1 at *
  refine loop_wp (I := fun n fr M' => n ≤ l.length ∧ M' = M1 ∧ posP (l.take (l.length - n)) k = none ∧ fr.get (.o .h) = some (.ptr tp 0) ∧ fr.get (.i (.o .h)) = some (.ptr M.next 0) ∧ fr.get (.i (.i .h)) = some (.int 3 ((2 * (l.length - n) : Nat) : Int))) (n := l.length) ?_ ?_
  · exact ⟨Nat.le_refl _, rfl, by rw [Nat.sub_self]; rfl, rfl, rfl, by rw [Nat.sub_self]; rfl⟩
  · rintro n fr M' ⟨i1, rfl, i3, f1, f2, f3⟩
    cases n with
    | zero =>
      have g : decide (((2 * (l.length - 0) : Nat) : Int) < ((2 * l.length : Nat) : Int)) = false := by simp only [decide_eq_false_iff_not]; omega
      rw [Nat.sub_zero, List.take_length] at i3
      have hp : posI l k = -1 := by simp only [posI, i3]
      simp only [go_sem, f1, f2, f3, t1, l2, g]
      rw [hkk] at hp
      first | exact ⟨by rw [hp], b1⟩ | (simp only [hp]; exact ⟨rfl, b1⟩) | (rw [hp]; exact b1)
    | succ n =>
      have g : decide (((2 * (l.length - (n + 1)) : Nat) : Int) < ((2 * l.length : Nat) : Int)) = true := by simp only [decide_eq_true_eq]; omega
      have hi : l.length - (n + 1) < l.length := by omega
      have hfl : (flatP l).length = 2 * l.length := flatP_len _
      obtain ⟨q, qo, a1, a2⟩ := vl_at (hs.old b1.old) (i := 2 * (l.length - (n + 1))) (by omega)
      rw [hfl] at a1
      have k2 := flatP_key l hi
      rw [List.getElem?_eq_getElem (by omega)] at k2
      rw [Option.some.inj k2] at a2
      have g3 : 2 * (l.length - (n + 1)) < 2 * l.length := by omega
      by_cases he : l[l.length - (n + 1)].1 = k
      · have hp : posI l k = ((2 * (l.length - (n + 1)) : Nat) : Int) := by simp only [posI, posP_at hi i3 he]
        rw [he, hkk] at a2
        simp only at a2
        have ge : (((kk == kk) && (kn == kn)) != false) = true := by simp
        have g1 : (kk == kk) = true := by simp
        have g2 : (kn == kn) = true := by simp
        simp only [go_sem, f1, f2, f3, t1, l2, g, g3, a1, a2, x1, g1, g2]
        rw [hkk] at hp
        first | exact ⟨by rw [hp], b1⟩ | (simp only [hp]; exact ⟨rfl, b1⟩) | (rw [hp]; exact b1)
      · have i3' := posP_step hi i3 he
        cases hxx : l[l.length - (n + 1)].1 with
        | mk xk xn =>
        rw [hxx] at a2
        simp only at a2
        have ge : (((xk == kk) && (xn == kn)) != false) = false := by
          have : ¬ (xk = kk ∧ xn = kn) := fun ⟨e1, e2⟩ => he (by rw [hxx, hkk, e1, e2])
          simpa using this
        have e1 : IntKind.i64.wrap (((2 * (l.length - (n + 1)) : Nat) : Int) + 2) = ((2 * (l.length - n) : Nat) : Int) := by rw [wrap64 (by omega) (by omega)]; omega
        simp only [go_sem, f1, f2, f3, t1, l2, g, g3, a1, a2, x1, ge, e1]
        exact ⟨n, by omega, by omega, rfl, by rw [show l.length - n = l.length - (n + 1) + 1 by omega]; exact i3', by simp [Tr.get_set, f1], by simp [Tr.get_set, f2], by rw [Tr.get_set]; rfl⟩
end Go.Proofs.Ythpnhdopheofcaa

end
section
namespace Go.Proofs.Ythpnhdopheofcaa
open Go.Dx
variable {tbl : Nat → Option CFunc}

/-- leave, of values that hold nothing. -/
theorem leave_none (h : tbl 149 = some cf149) (h77 : tbl 77 = some cf77) (h117 : tbl 117 = some cf117) (h143 : tbl 143 = some cf143) {M : Mem} {tp : AV} {sv : AV} {l : List Vl} (hs : SlIs M sv 2 (VlL l)) (hl : l.length < 2 ^ 62) (hv : ∀ v ∈ l, refV v = false) :
    CallW tbl 149 (.cons tp (.cons sv .nil)) M fun r M' => r = .ret (.tuple .nil) ∧ But (fun _ => False) M M' := by
  refine CallW.wf fun hw => ?_
  refine CallW.intro h rfl (fr := .nod (.val .leaf tp .leaf) (.val .leaf sv .leaf)) rfl ?_
  have hlen := hs.len
  rw [vlL_len] at hlen
  simp only [go_sem, cf149, hlen]
  refine loop_wp (I := fun n fr M' => n ≤ l.length ∧ M'.wf ∧ But (fun _ => False) M M' ∧ fr.get (.o (.o (.o .h))) = some sv ∧ fr.get (.i (.o (.o .h))) = some (.int 3 l.length) ∧ fr.get (.o (.i (.o .h))) = some (.int 3 ((l.length - n : Nat) : Int))) (n := l.length) ?_ ?_
  · exact ⟨Nat.le_refl _, hw, But.refl _ _, rfl, rfl, by rw [Nat.sub_self]; rfl⟩
  · rintro n fr M' ⟨i1, i2, i3, f1, f3, f4⟩
    cases n with
    | zero =>
      have g1 : decide (((l.length - 0 : Nat) : Int) < (l.length : Int)) = false := by simp only [decide_eq_false_iff_not]; omega
      simp only [go_sem, f1, f3, f4, g1]
      first | exact i3 | exact ⟨rfl, i3⟩
    | succ n =>
      have g1 : decide (((l.length - (n + 1) : Nat) : Int) < (l.length : Int)) = true := by simp only [decide_eq_true_eq]; omega
      have hi : l.length - (n + 1) < l.length := by omega
      obtain ⟨p, po, a1, a2⟩ := vl_at (hs.old i3.old) (i := l.length - (n + 1)) hi
      have hvv := hv _ (List.getElem_mem hi)
      generalize l[l.length - (n + 1)] = v at *
      obtain ⟨vk, vn⟩ := v
      have b1 := But.fill i2 (.cells [.int 3 0, .int 3 0] false) (.cells [.int 3 vk, .int 3 vn] false)
      simp only [go_sem, f1, f3, f4, g1, a1, a2, hi]
      refine (ref_spec h77 h117 h143 (v := ⟨vk, vn⟩)).use ?_
      rintro r M2 hw2 ⟨rfl, b2⟩
      have e1 : IntKind.i64.wrap (((l.length - (n + 1) : Nat) : Int) + 1) = ((l.length - n : Nat) : Int) := by rw [wrap64 (by omega) (by omega)]; omega
      simp only [go_sem, hvv, f1, f3, f4, e1]
      exact ⟨n, by omega, by omega, hw2, (i3.trans b1).trans b2, by simp [Tr.get_set, f1], by simp [Tr.get_set, f3], by rw [Tr.get_set]; rfl⟩
end Go.Proofs.Ythpnhdopheofcaa

end
section
namespace Go.Proofs.Ythpnhdopheofcaa
open Go.Dx
variable {tbl : Nat → Option CFunc}

def flatV (l : List (Vl × Vl)) : List (List AV) := VlL (flatP l)
theorem flatV_cons (x : Vl × Vl) (l : List (Vl × Vl)) : flatV (x :: l) = VlR x.1 :: VlR x.2 :: flatV l := rfl
theorem flatV_len (l : List (Vl × Vl)) : (flatV l).length = 2 * l.length := by rw [flatV, vlL_len, flatP_len]
theorem flatV_app (l r : List (Vl × Vl)) : flatV (l ++ r) = flatV l ++ flatV r := by
  induction l with
  | nil => rfl
  | cons x l ih => rw [List.cons_append, flatV_cons, flatV_cons, ih]; rfl
theorem flatV_take (l : List (Vl × Vl)) (j : Nat) : flatV (l.take j) = (flatV l).take (2 * j) := by
  induction l generalizing j with
  | nil => simp [flatV, flatP, VlL]
  | cons x l ih =>
    cases j with
    | zero => rfl
    | succ j =>
      rw [List.take_succ_cons, flatV_cons, flatV_cons, ih, show 2 * (j + 1) = (2 * j + 1) + 1 by omega, List.take_succ_cons, List.take_succ_cons]
theorem flatV_drop (l : List (Vl × Vl)) (j : Nat) : flatV (l.drop j) = (flatV l).drop (2 * j) := by
  induction l generalizing j with
  | nil => simp [flatV, flatP, VlL]
  | cons x l ih =>
    cases j with
    | zero => rfl
    | succ j =>
      rw [List.drop_succ_cons, flatV_cons, ih, show 2 * (j + 1) = (2 * j + 1) + 1 by omega, List.drop_succ_cons, List.drop_succ_cons]

/-- A pair taken out: the last one comes to its place. -/
def takeP (l : List (Vl × Vl)) (i : Nat) : List (Vl × Vl) := (l.take i ++ l.drop (l.length - 1) ++ l.drop (i + 1)).take (l.length - 1)

/-- dict's table, as it is changed. -/
structure DtB (M : Mem) (own : Own) (tp : Pos) (va vp vg : AV) (arr : List Vl) (prs : List (Vl × Vl)) : Prop where
  inn : own.in M
  tpo : own tp = some (30, 0)
  tpc : M.get tp = some (.cells [va, vp, vg] false)
  arr_ : SlO M own (31, 0) va 2 (VlL arr)
  prs_ : SlO M own (32, 0) vp 2 (flatV prs)
  gon : SlO M own (33, 0) vg 2 []

theorem DtB.setPrs {M M1 : Mem} {own own1 : Own} {tp : Pos} {va vp vg v : AV} {arr : List Vl} {prs prs' : List (Vl × Vl)} (h : DtB M own tp va vp vg arr prs) (u : OwnUp (32, 0) M M1 own own1) (hb : But (fun p => own p = some (32, 0)) M M1) (hs : SlO M1 own1 (32, 0) v 2 (flatV prs')) :
    DtB (M1.put tp (.cells [va, v, vg] false)) own1 tp va v vg arr prs' := by
  have hq := u.old h.tpo
  have kp : ∀ p c t, own1 p = some t → t ≠ (30, 0) → M1.get p = some c → (M1.put tp (.cells [va, v, vg] false)).get p = some c := fun p c t ho ht hp => by
    show (if p = tp then _ else M1.get p) = _
    rw [if_neg fun e => by rw [e, hq] at ho; cases ho; exact ht rfl]
    exact hp
  have k0 : ∀ p c t, own p = some t → t ≠ (32, 0) → M.get p = some c → M1.get p = some c := fun p c t ho ht hp => hb.get p c (fun e => ht (by rw [ho] at e; exact Option.some.inj e)) hp
  exact ⟨u.in_ h.inn hb.next, hq, by simp [Mem.put], h.arr_.keep (fun p c ho hp => kp p c _ (u.old ho) (by simp) (k0 p c _ ho (by simp) hp)) fun p ho => u.old ho,
    hs.keep (fun p c ho hp => kp p c _ ho (by simp) hp) fun _ h => h, h.gon.keep (fun p c ho hp => kp p c _ (u.old ho) (by simp) (k0 p c _ ho (by simp) hp)) fun p ho => u.old ho⟩
theorem DtB.setArr {M M1 : Mem} {own own1 : Own} {tp : Pos} {va vp vg v : AV} {arr arr' : List Vl} {prs : List (Vl × Vl)} (h : DtB M own tp va vp vg arr prs) (u : OwnUp (31, 0) M M1 own own1) (hb : But (fun p => own p = some (31, 0)) M M1) (hs : SlO M1 own1 (31, 0) v 2 (VlL arr')) :
    DtB (M1.put tp (.cells [v, vp, vg] false)) own1 tp v vp vg arr' prs := by
  have hq := u.old h.tpo
  have kp : ∀ p c t, own1 p = some t → t ≠ (30, 0) → M1.get p = some c → (M1.put tp (.cells [v, vp, vg] false)).get p = some c := fun p c t ho ht hp => by
    show (if p = tp then _ else M1.get p) = _
    rw [if_neg fun e => by rw [e, hq] at ho; cases ho; exact ht rfl]
    exact hp
  have k0 : ∀ p c t, own p = some t → t ≠ (31, 0) → M.get p = some c → M1.get p = some c := fun p c t ho ht hp => hb.get p c (fun e => ht (by rw [ho] at e; exact Option.some.inj e)) hp
  exact ⟨u.in_ h.inn hb.next, hq, by simp [Mem.put], hs.keep (fun p c ho hp => kp p c _ ho (by simp) hp) fun _ h => h,
    h.prs_.keep (fun p c ho hp => kp p c _ (u.old ho) (by simp) (k0 p c _ ho (by simp) hp)) fun p ho => u.old ho, h.gon.keep (fun p c ho hp => kp p c _ (u.old ho) (by simp) (k0 p c _ ho (by simp) hp)) fun p ho => u.old ho⟩
theorem DtB.keep {M M' : Mem} {own : Own} {tp : Pos} {va vp vg : AV} {arr : List Vl} {prs : List (Vl × Vl)} (h : DtB M own tp va vp vg arr prs) (hb : But (fun p => own p = none) M M') : DtB M' own tp va vp vg arr prs := by
  have k : ∀ p b t, own p = some t → M.get p = some b → M'.get p = some b := fun p b t ho hp => hb.get p b (by rw [ho]; simp) hp
  have ks : ∀ {t v size L}, SlO M own t v size L → SlO M' own t v size L := fun hs => hs.keep (fun p b ho hp => k p b _ ho hp) fun _ h => h
  exact ⟨Own.in.mono h.inn hb.next, h.tpo, k _ _ _ h.tpo h.tpc, ks h.arr_, ks h.prs_, ks h.gon⟩
end Go.Proofs.Ythpnhdopheofcaa

end
section
namespace Go.Proofs.Ythpnhdopheofcaa
open Go.Dx
variable {tbl : Nat → Option CFunc}

theorem takeP_len {l : List (Vl × Vl)} {i : Nat} (hi : i < l.length) : (takeP l i).length = l.length - 1 := by
  simp only [takeP, List.length_take, List.length_append, List.length_drop]; omega
theorem flatV_takeP {l : List (Vl × Vl)} {i : Nat} (hi : i < l.length) : ((flatV l).take (2 * i) ++ (flatV l).drop ((flatV l).length - 2) ++ (flatV l).drop (2 * i + 2)).take (2 * l.length - 2) = flatV (takeP l i) := by
  have e1 : (flatV l).length - 2 = 2 * (l.length - 1) := by rw [flatV_len]; omega
  have e2 : 2 * i + 2 = 2 * (i + 1) := by omega
  have e3 : 2 * l.length - 2 = 2 * (l.length - 1) := by omega
  rw [e1, e2, e3, ← flatV_take, ← flatV_drop, ← flatV_drop, ← flatV_app, ← flatV_app, ← flatV_take]
  rfl

theorem take_spec (h : tbl 150 = some cf150) {M : Mem} {own : Own} {tp : Pos} {va vp vg : AV} {arr : List Vl} {prs : List (Vl × Vl)} {i : Nat} (hB : DtB M own tp va vp vg arr prs) (hi : i < prs.length) (hl : prs.length ≤ 2 ^ 20) :
    CallW tbl 150 (.cons (.ptr tp 0) (.cons (.int 3 ((2 * i : Nat) : Int)) .nil)) M fun r M' => r = .ret (.tuple .nil) ∧ (∃ vp', DtB M' own tp va vp' vg arr (takeP prs i)) ∧ But (fun p => own p ≠ none) M M' := by
  refine CallW.wf fun hw => ?_
  refine CallW.intro h rfl (fr := .nod (.val .leaf (.ptr tp 0) .leaf) (.val .leaf (.int 3 ((2 * i : Nat) : Int)) .leaf)) rfl ?_
  have hlen : slLen vp = some (2 * prs.length) := by rw [hB.prs_.len, flatV_len]
  have htp := hB.tpc
  have e1 : IntKind.i64.wrap (((2 * prs.length : Nat) : Int) - 2) = ((2 * prs.length - 2 : Nat) : Int) := by rw [wrap64 (by omega) (by omega)]; omega
  obtain ⟨d, s, p, b, p1, p2, p3, p4, ⟨b0, p5⟩, p6⟩ := hB.prs_.copyTail (by omega) (i := 2 * i) (k := 2) (by omega) (by rw [flatV_len]; omega)
  have ed : (flatV prs).length - 2 = 2 * prs.length - 2 := by rw [flatV_len]
  rw [ed] at p2
  have ntp : (tp = p) = False := eq_false fun e => by have := hB.tpo; rw [e, p4] at this; cases this
  have hlen6 : 2 * prs.length - 2 ≤ ((flatV prs).take (2 * i) ++ (flatV prs).drop ((flatV prs).length - 2) ++ (flatV prs).drop (2 * i + 2)).length := by
    simp only [List.length_append, List.length_take, List.length_drop, flatV_len]; omega
  obtain ⟨v7, q7, s7⟩ := p6.take_ (by omega) (k := 2 * prs.length - 2) hlen6
  rw [flatV_takeP hi] at s7
  have hc7 := s7.cell
  have bp : But (fun q => own q = some (32, 0)) M (M.put p b) := But.put (p := p) _ p4 _
  have hB' := hB.setPrs (M1 := M.put p b) (own1 := own) (OwnUp.refl _ _ _ _) bp s7
  simp only [go_sem, cf150, htp, hlen, e1, p1, p2, p3, ntp, q7, hc7]
  exact ⟨⟨v7, hB'⟩, (bp.mono fun q e => by rw [e]; simp).trans (But.put (p := tp) _ (by rw [hB.tpo]; simp) _)⟩
end Go.Proofs.Ythpnhdopheofcaa

end
section
namespace Go.Proofs.Ythpnhdopheofcaa
open Go.Dx
variable {tbl : Nat → Option CFunc}

/-- Without the empty places at the end. -/
def trimF : Nat → List Vl → List Vl
  | 0, l => l
  | n + 1, l => match l.getLast? with
    | some v => if nullV v = true then trimF n l.dropLast else l
    | none => l
def layV (l : List Vl) (i : Nat) (v : Vl) : List Vl := if i + 1 < l.length then l.set i v else trimF l.length (l.set i v)

theorem DtB.rowArr {M : Mem} {own : Own} {tp p : Pos} {b : MB} {va vp vg : AV} {arr arr' : List Vl} {prs : List (Vl × Vl)} (h : DtB M own tp va vp vg arr prs) (hq : own p = some (31, 0)) (s : SlO (M.put p b) own (31, 0) va 2 (VlL arr')) : DtB (M.put p b) own tp va vp vg arr' prs := by
  have kp : ∀ q c t, own q = some t → t ≠ (31, 0) → M.get q = some c → (M.put p b).get q = some c := fun q c t ho ht hp => by
    show (if q = p then _ else M.get q) = _
    rw [if_neg fun e => by rw [e, hq] at ho; cases ho; exact ht rfl]
    exact hp
  exact ⟨Own.in.mono h.inn (Nat.le_refl _), h.tpo, kp _ _ _ h.tpo (by simp) h.tpc, s, h.prs_.keep (fun q c ho hp => kp q c _ ho (by simp) hp) fun _ h => h, h.gon.keep (fun q c ho hp => kp q c _ ho (by simp) hp) fun _ h => h⟩
theorem lay_spec (D : DcT tbl) (h147 : tbl 147 = some cf147) (h149 : tbl 149 = some cf149) (h77 : tbl 77 = some cf77) {M : Mem} {own : Own} {tp : Pos} {va vp vg : AV} {arr : List Vl} {prs : List (Vl × Vl)} {i : Nat} {v : Vl} (hB : DtB M own tp va vp vg arr prs) (hi : i < arr.length) (hl : arr.length ≤ 2 ^ 20) (hr : refV arr[i] = false) :
    CallW tbl 147 (.cons (.ptr tp 0) (.cons (.int 3 (i : Int)) (.cons (VlA v) .nil))) M fun r M' => r = .ret (.tuple .nil) ∧ (∃ va', DtB M' own tp va' vp vg (layV arr i v) prs) ∧ But (fun p => own p ≠ none) M M' := by
  refine CallW.wf fun hw => ?_
  obtain ⟨vk, vn⟩ := v
  refine CallW.intro h147 rfl (fr := .nod (.val (.val .leaf (VlA ⟨vk, vn⟩) .leaf) (.ptr tp 0) .leaf) (.val .leaf (.int 3 (i : Int)) .leaf)) rfl ?_
  have b1 := But.new (S := fun _ => False) hw (.cells [.int 3 vk, .int 3 vn] false)
  have w1 := hw.new (.cells [.int 3 vk, .int 3 vn] false)
  have x1 : (M.new (.cells [.int 3 vk, .int 3 vn] false)).get M.next = some (.cells [.int 3 vk, .int 3 vn] false) := by simp only [go_sem]
  have hB1 := hB.keep (b1.any _)
  have htp := hB.tpc
  have ne1 := hw.ne htp
  have hlen : slLen va = some arr.length := by rw [hB.arr_.len, vlL_len]
  obtain ⟨p, po, a1, a2⟩ := vl_at hB.arr_.rows hi
  have hbp : ∃ bp, M.get p = some bp := by
    cases hx : M.get p with
    | none => rw [hx] at a2; cases a2
    | some bp => exact ⟨bp, rfl⟩
  obtain ⟨bp, hbp⟩ := hbp
  have ne2 := hw.ne hbp
  have hnx : (M.new (.cells [.int 3 vk, .int 3 vn] false)).next = M.next.succ := rfl
  simp only [go_sem, cf147, VlA, htp, ne1, a1, a2, ne2, hi]
  generalize hM1 : M.new (.cells [.int 3 vk, .int 3 vn] false) = M1 at *
  have b2 := But.new (S := fun _ => False) w1 (.cells [.int 3 arr[i].k, .int 3 arr[i].n] false)
  have hs2 : SlIs (M1.new (.cells [.int 3 arr[i].k, .int 3 arr[i].n] false)) (.slice M1.next 0 1 1) 2 (VlL [arr[i]]) := SlIs.made (X := VlL [arr[i]]) (x := [.int 3 arr[i].k, .int 3 arr[i].n]) (op := false) (by simp [Mem.new]) (by simp [VlL, VlR]) (by intro y hy; simp [VlL, VlR] at hy; subst hy; rfl) rfl
  rw [hnx] at hs2
  refine (leave_none h149 h77 D.h117 D.h143 hs2 (by show (1 : Nat) < 2 ^ 62; decide) (by intro w hw'; rw [List.mem_singleton.1 hw']; exact hr)).use ?_
  rintro r M2 hw2 ⟨rfl, b3⟩
  have hB2 := hB1.keep ((b2.trans b3).any _)
  have x2 := (b2.trans b3).get _ _ id x1
  have htp2 := hB2.tpc
  have a1' := a1
  obtain ⟨b, st, hq, ⟨b0, hb0⟩, s4⟩ := hB2.arr_.set_ (i := i) (by rw [vlL_len]; exact hi) (x := [.int 3 vk, .int 3 vn]) rfl rfl a1
  rw [Mem.store_eq] at st
  have ntp : (tp = p) = False := eq_false fun e => by have := hB.tpo; rw [e, hq] at this; cases this
  have hrow : (VlL arr).set i [.int 3 vk, .int 3 vn] = VlL (arr.set i ⟨vk, vn⟩) := by simp [VlL, VlR, List.map_set]
  rw [hrow] at s4
  have hB3 := hB2.rowArr hq s4
  have hlen3 : slLen va = some arr.length := hlen
  have e1 : IntKind.i64.wrap ((arr.length : Int) - 1) = ((arr.length - 1 : Nat) : Int) := by rw [wrap64 (by omega) (by omega)]; omega
  have bp : But (fun q => own q ≠ none) M2 (M2.put p b) := But.put (p := p) _ (by rw [hq]; simp) _
  have w3 : (M2.put p b).wf := hw2.put hb0 b
  have b123 : But (fun q => own q ≠ none) M M2 := (b1.any _).trans ((b2.trans b3).any _)
  by_cases hlt : i + 1 < arr.length
  · have g : decide ((i : Int) < ((arr.length - 1 : Nat) : Int)) = true := by simp only [decide_eq_true_eq]; omega
    have hlay : layV arr i ⟨vk, vn⟩ = arr.set i ⟨vk, vn⟩ := by simp only [layV, if_pos hlt]
    simp only [go_sem, htp2, a1, hi, x2, st, ntp, hlen, e1, g]
    rw [hlay]
    exact ⟨⟨va, hB3⟩, b123.trans bp⟩
  · have g : decide ((i : Int) < ((arr.length - 1 : Nat) : Int)) = false := by simp only [decide_eq_false_iff_not]; omega
    have hlay : layV arr i ⟨vk, vn⟩ = trimF arr.length (arr.set i ⟨vk, vn⟩) := by simp only [layV, if_neg hlt]
    simp only [go_sem, htp2, a1, hi, x2, st, ntp, hlen, e1, g]
    refine loop_wp (I := fun n fr M' => M'.wf ∧ n ≤ arr.length ∧ (∃ va' arr', DtB M' own tp va' vp vg arr' prs ∧ arr'.length = n ∧ trimF n arr' = trimF arr.length (arr.set i ⟨vk, vn⟩)) ∧ But (fun q => own q ≠ none) (M2.put p b) M' ∧ fr.get (.o .h) = some (.ptr tp 0)) (n := arr.length) ?_ ?_
    · exact ⟨w3, Nat.le_refl _, ⟨va, _, hB3, by rw [List.length_set], rfl⟩, But.refl _ _, rfl⟩
    · rintro n fr M' ⟨i1, i2, ⟨va', arr', i3, i4, i5⟩, i6, f1⟩
      have ht := i3.tpc
      have hl' : slLen va' = some n := by rw [i3.arr_.len, vlL_len, i4]
      cases n with
      | zero =>
        have g0 : decide ((0 : Int) < ((0 : Nat) : Int)) = false := rfl
        simp only [go_sem, f1, ht, hl', g0]
        rw [hlay, ← i5]
        exact ⟨⟨va', i3⟩, (b123.trans bp).trans i6⟩
      | succ n =>
        have g0 : decide ((0 : Int) < ((n + 1 : Nat) : Int)) = true := by simp only [decide_eq_true_eq]; omega
        have e2 : IntKind.i64.wrap (((n + 1 : Nat) : Int) - 1) = (n : Int) := by rw [wrap64 (by omega) (by omega)]; omega
        have hn : n < arr'.length := by omega
        obtain ⟨q', qo', c1, c2⟩ := vl_at i3.arr_.rows hn
        rw [i4] at c1
        have g3 : n < n + 1 := by omega
        have hlast : arr'.getLast? = some arr'[n] := by rw [List.getLast?_eq_getElem?, i4]; exact List.getElem?_eq_getElem hn
        simp only [go_sem, f1, ht, hl', g0, e2, c1, c2, g3]
        refine (null_spec' D.h129 arr'[n]).use ?_
        rintro r M5 hw5 ⟨rfl, b5⟩
        have hB5 := i3.keep (b5.any _)
        have ht5 := hB5.tpc
        simp only [trimF, hlast] at i5
        cases hv : nullV arr'[n] with
        | true =>
          rw [hv] at i5
          simp only [if_true] at i5
          obtain ⟨v7, q7, s7⟩ := hB5.arr_.take_ (by omega) (k := n) (by rw [vlL_len]; omega)
          have hc7 := s7.cell
          have hdl : (VlL arr').take n = VlL arr'.dropLast := by rw [List.dropLast_eq_take, i4]; simp [VlL, List.map_take]
          rw [hdl] at s7
          have hB6 := hB5.setArr (M1 := M5) (own1 := own) (OwnUp.refl _ _ _ _) (But.refl _ _) s7
          simp only [go_sem, f1, ht5, hl', e2, q7, hc7]
          exact ⟨n, by omega, hw5.put ht5 _, by omega, ⟨v7, _, hB6, by rw [List.length_dropLast]; omega, i5⟩, (i6.trans (b5.any _)).trans (But.put (p := tp) _ (by rw [hB5.tpo]; simp) _), by simp [Tr.get_set, f1]⟩
        | false =>
          rw [hv] at i5
          simp only [Bool.false_eq_true, if_false] at i5
          simp only [go_sem, f1]
          rw [hlay, ← i5]
          exact ⟨⟨va', hB5⟩, ((b123.trans bp).trans i6).trans (b5.any _)⟩
end Go.Proofs.Ythpnhdopheofcaa

end
section
namespace Go.Proofs.Ythpnhdopheofcaa
open Go.Dx
variable {tbl : Nat → Option CFunc}

/-- What grows: the places that come next, from the pairs. -/
def growF : Nat → List Vl → List (Vl × Vl) → List Vl × List (Vl × Vl)
  | 0, a, l => (a, l)
  | n + 1, a, l => match posP l ⟨3, (a.length : Int) + 1⟩ with
    | some j => growF n (a ++ [((l[j]?).map (·.2)).getD ⟨1, 0⟩]) (takeP l j)
    | none => (a, l)

/-- Rows of a block that stands alone, appended (as in SkJ). -/
theorem slO_pushFrom' {M : Mem} {own : Own} {t : Tag} {v : AV} {size : Nat} {L X : List (List AV)} {n c : Nat} {x : List AV} {q : Pos} (h : SlO M own t v size L) (hw : M.wf) (hi : own.in M) (hq : M.get q = some (.cells x false)) (hn : n = X.length) (hxx : x = X.flatten) (hx : ∀ x ∈ X, x.length = size ∧ x.all isCell = true) (hs0 : 0 < size) (hm : L.length + X.length ≤ most) :
    ∃ v' M' own', appO M size v (.slice q 0 n c) = some (v', M') ∧ SlO M' own' t v' size (L ++ X) ∧ OwnUp t M M' own own' ∧ But (fun p => own p = some t) M M' ∧ M'.wf := by
  subst hn hxx
  obtain ⟨v', M', own', h1, h2, h3, h4, h5⟩ := h.append_ hw hi hx hs0 hm
  refine ⟨v', M', own', ?_, h2, h3, h4, h5⟩
  have hsrc : srcM M size X.length (.slice q 0 X.length c) = some X.flatten :=
    (SlIs.made (X := X) (op := false) hq rfl (fun y hy => (hx y hy).1) rfl).src rfl (by simp)
  simp only [appO, lenOf_slice, Option.bind_some, hsrc]
  exact h1

theorem grow_spec (D : DcT tbl) (h151 : tbl 151 = some cf151) (h150 : tbl 150 = some cf150) (h148 : tbl 148 = some cf148) (h123 : tbl 123 = some cf123) {M : Mem} {own : Own} {tp : Pos} {va vp vg : AV} {arr : List Vl} {prs : List (Vl × Vl)} {v : Vl} (hB : DtB M own tp va vp vg arr prs) (hl : arr.length + prs.length ≤ 2 ^ 19) :
    CallW tbl 151 (.cons (.ptr tp 0) (.cons (VlA v) .nil)) M fun r M' => r = .ret (.tuple .nil) ∧ (∃ own' va' vp', DtB M' own' tp va' vp' vg (growF prs.length (arr ++ [v]) prs).1 (growF prs.length (arr ++ [v]) prs).2 ∧ ∀ p, own p = none → own' p = none ∨ M.next.num ≤ p.num) ∧ But (fun p => own p ≠ none) M M' := by
  refine CallW.wf fun hw => ?_
  obtain ⟨vk, vn⟩ := v
  refine CallW.intro h151 rfl (fr := .nod (.val .leaf (.ptr tp 0) .leaf) (.val .leaf (VlA ⟨vk, vn⟩) .leaf)) rfl ?_
  have htp := hB.tpc
  have ne1 := hw.ne htp
  have b1 := But.new (S := fun _ => False) hw (.cells [.int 3 vk, .int 3 vn] false)
  have w1 := hw.new (.cells [.int 3 vk, .int 3 vn] false)
  have hB1 := hB.keep (b1.any _)
  obtain ⟨v3, M3, own3, p3, s3, u3, b3, w3⟩ := hB1.arr_.push_ w1 hB1.inn (n := 1) (c := 1) (X := [VlR ⟨vk, vn⟩]) (x := [.int 3 vk, .int 3 vn]) rfl rfl (by simp [VlR, isCell]) (by omega) (by rw [vlL_len]; simp only [most, List.length_cons, List.length_nil]; omega)
  have p3' : appO (({ next := M.next.succ.succ, get := (M.new (.cells [.int 3 vk, .int 3 vn] false)).get } : Mem).put M.next.succ (.cells [.int 3 vk, .int 3 vn] false)) 2 va (.slice M.next.succ 0 1 1) = some (v3, M3) := p3
  have hc3 := s3.cell
  have hs3 : VlL arr ++ [VlR ⟨vk, vn⟩] = VlL (arr ++ [⟨vk, vn⟩]) := by simp [VlL]
  rw [hs3] at s3
  have hB3 := hB1.setArr u3 b3 s3
  have htp3 := b3.get _ _ (fun e => by rw [hB1.tpo] at e; simp at e) hB1.tpc
  have hl3 : slLen v3 = some (arr.length + 1) := by rw [s3.len, vlL_len, List.length_append]; rfl
  have e1 : IntKind.i64.wrap (((arr.length + 1 : Nat) : Int) + 1) = ((arr.length + 1 : Nat) : Int) + 1 := wrap64 (by omega) (by omega)
  have hw4 : (M3.put tp (.cells [v3, vp, vg] false)).wf := w3.put htp3 _
  have hown3 : ∀ p, own p = none → own3 p = none ∨ M.next.num ≤ p.num := fun p hp => by
    rcases u3 p with e | ⟨_, _, e, _⟩
    · left; rw [e, hp]
    · right; exact Nat.le_trans b1.next e
  have wid : ∀ (own' : Own) (A B : Mem), (∀ p, own p = none → own' p = none ∨ M.next.num ≤ p.num) → But (fun p => own' p ≠ none) A B → But (fun p => own p ≠ none ∨ M.next.num ≤ p.num) A B := fun own' A B h hb => hb.mono fun p hp => by
    cases ho : own p with
    | none => exact .inr ((h p ho).resolve_left hp)
    | some t => exact .inl (by simp)
  have bb4 : But (fun p => own p ≠ none ∨ M.next.num ≤ p.num) M (M3.put tp (.cells [v3, vp, vg] false)) :=
    ((b1.any _).trans (b3.mono fun p e => .inl (by rw [e]; simp))).trans (But.put (p := tp) _ (.inl (by rw [hB.tpo]; simp)) _)
  simp only [go_sem, cf151, VlA, htp, ne1, p3', hc3, htp3, hl3, e1]
  refine (integer_spec h123 _).use ?_
  rintro r M5 hw5 ⟨rfl, b5⟩
  have hB5 := hB3.keep (b5.any _)
  simp only [go_sem]
  refine (find_spec (l := prs) (k := ⟨3, ((arr.length + 1 : Nat) : Int) + 1⟩) h148 (by omega) hB5.tpc hB5.prs_.rows).use ?_
  rintro r M6 hw6 ⟨rfl, b6⟩
  have hB6 := hB5.keep (b6.any _)
  simp only [go_sem]
  refine loop_wp (I := fun n fr M' => M'.wf ∧ (∃ own' va' vp' arr' prs', DtB M' own' tp va' vp' vg arr' prs' ∧ prs'.length = n ∧ arr'.length + prs'.length ≤ 2 ^ 19 + 1 ∧ growF n arr' prs' = growF prs.length (arr ++ [⟨vk, vn⟩]) prs ∧ (∀ p, own p = none → own' p = none ∨ M.next.num ≤ p.num) ∧ fr.get (.o (.i .h)) = some (.int 3 (posI prs' ⟨3, (arr'.length : Int) + 1⟩))) ∧ But (fun p => own p ≠ none ∨ M.next.num ≤ p.num) M M' ∧ fr.get (.o .h) = some (.ptr tp 0)) (n := prs.length) ?_ ?_
  · refine ⟨hw6, ⟨own3, v3, vp, _, prs, hB6, rfl, by simp only [List.length_append, List.length_cons, List.length_nil]; omega, rfl, hown3, ?_⟩, bb4.trans ((b5.trans b6).any _), rfl⟩
    simp only [List.length_append, List.length_cons, List.length_nil]
    rfl
  · rintro n fr M' ⟨i1, ⟨own', va', vp', arr', prs', i2, i3, i4, i5, i6, f2⟩, i7, f1⟩
    cases hpos : posP prs' ⟨3, (arr'.length : Int) + 1⟩ with
    | none =>
      have hpi : posI prs' ⟨3, (arr'.length : Int) + 1⟩ = -1 := by simp only [posI, hpos]
      have hg : growF n arr' prs' = (arr', prs') := by cases n <;> simp [growF, hpos]
      have g : decide ((0 : Int) ≤ -1) = false := rfl
      rw [hpi] at f2
      simp only [go_sem, f1, f2, g]
      rw [← i5, hg]
      exact ⟨⟨own', va', vp', i2, i6⟩, But.fresh hw i7⟩
    | some j =>
      have hj := posP_lt hpos
      cases n with
      | zero => omega
      | succ m =>
        have hpi : posI prs' ⟨3, (arr'.length : Int) + 1⟩ = ((2 * j : Nat) : Int) := by simp only [posI, hpos]
        rw [hpi] at f2
        have g : decide ((0 : Int) ≤ ((2 * j : Nat) : Int)) = true := by simp only [decide_eq_true_eq]; omega
        have ht := i2.tpc
        have hfl : (flatP prs').length = 2 * prs'.length := flatP_len _
        have l2 : slLen vp' = some (2 * prs'.length) := by rw [i2.prs_.len, flatV_len]
        obtain ⟨q, qo, a1, a2⟩ := vl_at i2.prs_.rows (i := 2 * j + 1) (by omega)
        rw [hfl] at a1
        have k2 := flatP_val prs' hj
        rw [List.getElem?_eq_getElem (by omega)] at k2
        rw [Option.some.inj k2] at a2
        have hgv : growF (m + 1) arr' prs' = growF m (arr' ++ [prs'[j].2]) (takeP prs' j) := by simp only [growF, hpos, List.getElem?_eq_getElem hj, Option.map_some, Option.getD_some]
        generalize prs'[j].2 = y at *
        obtain ⟨yk, yn⟩ := y
        have g3 : 2 * j + 1 < 2 * prs'.length := by omega
        have e7 : IntKind.i64.wrap (((2 * j : Nat) : Int) + 1) = ((2 * j + 1 : Nat) : Int) := by rw [wrap64 (by omega) (by omega)]; omega
        obtain ⟨v7, M7, own7, p7, s7, u7, b7, w7⟩ := i2.arr_.push_ i1 i2.inn (n := 1) (c := 1) (X := [VlR ⟨yk, yn⟩]) (x := [.int 3 yk, .int 3 yn]) rfl rfl (by simp [VlR, isCell]) (by omega) (by rw [vlL_len]; simp only [most, List.length_cons, List.length_nil]; omega)
        have p7' : appO (({ next := M'.next.succ, get := M'.get } : Mem).put M'.next (.cells [.int 3 yk, .int 3 yn] false)) 2 va' (.slice M'.next 0 1 1) = some (v7, M7) := p7
        have hs7 : VlL arr' ++ [VlR ⟨yk, yn⟩] = VlL (arr' ++ [⟨yk, yn⟩]) := by simp [VlL]
        rw [hs7] at s7
        have hc7 := s7.cell
        have hB7 := i2.setArr u7 b7 s7
        have ht7 := b7.get _ _ (fun e => by rw [i2.tpo] at e; simp at e) ht
        have hn7 := i7.next
        have hown7 : ∀ p, own p = none → own7 p = none ∨ M.next.num ≤ p.num := fun p hp => by
          rcases i6 p hp with e | e
          · rcases u7 p with e' | ⟨_, _, e', _⟩
            · left; rw [e', e]
            · right; exact Nat.le_trans hn7 e'
          · exact .inr e
        simp only [go_sem, f1, f2, g, ht, l2, e7, a1, a2, g3, p7, p7', hc7, ht7]
        refine (take_spec h150 hB7 hj (by omega)).use ?_
        rintro r M8 hw8 ⟨rfl, ⟨vp8, hB8⟩, b8⟩
        have ht8 := hB8.tpc
        have l8 : slLen v7 = some (arr'.length + 1) := by rw [s7.len, vlL_len, List.length_append]; rfl
        have e8 : IntKind.i64.wrap (((arr'.length + 1 : Nat) : Int) + 1) = ((arr'.length + 1 : Nat) : Int) + 1 := wrap64 (by omega) (by omega)
        simp only [go_sem, f1, ht8, l8, e8]
        refine (integer_spec h123 _).use ?_
        rintro r M9 hw9 ⟨rfl, b9⟩
        have hB9 := hB8.keep (b9.any _)
        simp only [go_sem, f1]
        refine (find_spec (l := takeP prs' j) (k := ⟨3, ((arr'.length + 1 : Nat) : Int) + 1⟩) h148 (by rw [takeP_len hj]; omega) hB9.tpc hB9.prs_.rows).use ?_
        rintro r M10 hw10 ⟨rfl, b10⟩
        have hB10 := hB9.keep (b10.any _)
        simp only [go_sem, f1]
        have bb7 : But (fun p => own p ≠ none ∨ M.next.num ≤ p.num) M' M10 :=
          (((wid own' _ _ i6 (b7.mono fun p e => by rw [e]; simp)).trans (But.put (p := tp) _ (.inl (by rw [hB.tpo]; simp)) _)).trans (wid own7 _ _ hown7 b8)).trans ((b9.trans b10).any _)
        refine ⟨m, by omega, hw10, ⟨own7, v7, vp8, arr' ++ [⟨yk, yn⟩], takeP prs' j, hB10, by rw [takeP_len hj]; omega, by rw [takeP_len hj, List.length_append]; show _ + 1 + _ ≤ _; omega, by rw [← hgv]; exact i5, hown7, ?_⟩, i7.trans bb7, by simp [Tr.get_set, f1]⟩
        rw [List.length_append, Tr.get_set]
        rfl
end Go.Proofs.Ythpnhdopheofcaa

end
section
namespace Go.Proofs.Ythpnhdopheofcaa
open Go.Dx
variable {tbl : Nat → Option CFunc}

/-- What dict's put makes of a table. -/
def putT (arr : List Vl) (prs : List (Vl × Vl)) (k v : Vl) : List Vl × List (Vl × Vl) :=
  if placedV k arr.length = true then (layV arr (k.n.toNat - 1) v, prs)
  else match posP prs k with
    | some j => if nullV v = true then (arr, takeP prs j) else (arr, prs.set j (((prs[j]?).map (·.1)).getD ⟨1, 0⟩, v))
    | none => if nullV v = true then (arr, prs) else if placedV k ((arr.length : Int) + 1) = true then growF prs.length (arr ++ [v]) prs else (arr, prs ++ [(k, v)])

def blkBody : CCode → CCode
  | .block _ b => b
  | c => c
def condA : CCode → CCode
  | .cond _ a _ => a
  | c => c
def condB : CCode → CCode
  | .cond _ _ b => b
  | c => c

theorem DtB.rowPrs {M : Mem} {own : Own} {tp p : Pos} {b : MB} {va vp vg : AV} {arr : List Vl} {prs prs' : List (Vl × Vl)} (h : DtB M own tp va vp vg arr prs) (hq : own p = some (32, 0)) (s : SlO (M.put p b) own (32, 0) vp 2 (flatV prs')) : DtB (M.put p b) own tp va vp vg arr prs' := by
  have kp : ∀ q c t, own q = some t → t ≠ (32, 0) → M.get q = some c → (M.put p b).get q = some c := fun q c t ho ht hp => by
    show (if q = p then _ else M.get q) = _
    rw [if_neg fun e => by rw [e, hq] at ho; cases ho; exact ht rfl]
    exact hp
  exact ⟨Own.in.mono h.inn (Nat.le_refl _), h.tpo, kp _ _ _ h.tpo (by simp) h.tpc, h.arr_.keep (fun q c ho hp => kp q c _ ho (by simp) hp) fun _ h => h, s, h.gon.keep (fun q c ho hp => kp q c _ ho (by simp) hp) fun _ h => h⟩

theorem flatV_set (l : List (Vl × Vl)) {j : Nat} (hj : j < l.length) (v : Vl) : (flatV l).set (2 * j + 1) [.int 3 v.k, .int 3 v.n] = flatV (l.set j (l[j].1, v)) := by
  induction l generalizing j with
  | nil => simp at hj
  | cons x l ih =>
    cases j with
    | zero => rfl
    | succ j =>
      rw [flatV_cons, show 2 * (j + 1) + 1 = (2 * j + 1 + 1) + 1 by omega, List.set_cons_succ, List.set_cons_succ, ih (by simpa using hj)]
      rfl

/-- What a put leaves. -/
def PutQ (M : Mem) (own : Own) (tp : Pos) (vg : AV) (X : List Vl × List (Vl × Vl)) (r : CR) (M' : Mem) : Prop :=
  r = .ret (.tuple .nil) ∧ (∃ own' va' vp', DtB M' own' tp va' vp' vg X.1 X.2 ∧ ∀ p, own p = none → own' p = none ∨ M.next.num ≤ p.num) ∧ But (fun p => own p ≠ none) M M'

structure PutT (tbl : Nat → Option CFunc) : Prop extends DcT tbl where
  h77 : tbl 77 = some cf77
  h123 : tbl 123 = some cf123
  h126 : tbl 126 = some cf126
  h147 : tbl 147 = some cf147
  h148 : tbl 148 = some cf148
  h149 : tbl 149 = some cf149
  h150 : tbl 150 = some cf150
  h151 : tbl 151 = some cf151

theorem put_a (D : PutT tbl) {M : Mem} {own : Own} {tp pk pv : Pos} {va vp vg : AV} {arr : List Vl} {prs : List (Vl × Vl)} {k v : Vl} {fr : Tr AV} {j : Nat} {M0 : Mem} (b0 : But (fun _ => False) M0 M) (hw : M.wf) (hB : DtB M own tp va vp vg arr prs) (hl : arr.length + prs.length ≤ 2 ^ 19)
    (hr : ∀ x ∈ prs, refV x.1 = false ∧ refV x.2 = false) (hkr : refV k = false) (f1 : fr.get (.o .h) = some (.ptr tp 0)) (f2 : fr.get (.o (.i .h)) = some (.ptr pk 0)) (f3 : fr.get (.i (.i .h)) = some (.ptr pv 0)) (f4 : fr.get (.o (.o (.o .h))) = some (.int 3 ((2 * j : Nat) : Int)))
    (xk : M.get pk = some (.cells [.int 3 k.k, .int 3 k.n] false)) (xv : M.get pv = some (.cells [.int 3 v.k, .int 3 v.n] false)) (ok : own pk = none) (ov : own pv = none) (hj : j < prs.length) (hv : nullV v = true) :
    CCode.wp tbl (seqTail 3 cf126.body) fr M (finW cf126.results (PutQ M0 own tp vg (arr, takeP prs j))) := by
  obtain ⟨vk, vn⟩ := v
  obtain ⟨kk, kn⟩ := k
  have g : decide ((0 : Int) ≤ ((2 * j : Nat) : Int)) = true := by simp only [decide_eq_true_eq]; omega
  simp only [go_sem, cf126, seqTail, f1, f2, f3, f4, g, xv]
  refine (null_spec' D.h129 ⟨vk, vn⟩).use ?_
  rintro r M1 hw1 ⟨rfl, b1⟩
  rw [hv]
  have hB1 := hB.keep (b1.any _)
  have ht1 := hB1.tpc
  have xk1 := b1.get _ _ id xk
  have l2 : slLen vp = some (2 * prs.length) := by rw [hB.prs_.len, flatV_len]
  have hfl : (flatP prs).length = 2 * prs.length := flatP_len _
  have e7 : IntKind.i64.wrap (((2 * j : Nat) : Int) + 1) = ((2 * j + 1 : Nat) : Int) := by rw [wrap64 (by omega) (by omega)]; omega
  obtain ⟨q, qo, a1, a2⟩ := vl_at hB1.prs_.rows (i := 2 * j) (by omega)
  obtain ⟨q', qo', a1', a3⟩ := vl_at hB1.prs_.rows (i := 2 * j + 1) (by omega)
  rw [a1] at a1'
  cases a1'
  rw [hfl] at a1
  have k1 := flatP_key prs hj
  rw [List.getElem?_eq_getElem (by omega)] at k1
  rw [Option.some.inj k1] at a2
  have k2 := flatP_val prs hj
  rw [List.getElem?_eq_getElem (by omega)] at k2
  rw [Option.some.inj k2] at a3
  have hrr := hr _ (List.getElem_mem hj)
  generalize prs[j] = x at *
  obtain ⟨⟨yk, yn⟩, ⟨zk, zn⟩⟩ := x
  have g3 : 2 * j + 1 < 2 * prs.length := by omega
  have g4 : 2 * j < 2 * prs.length := by omega
  simp only [go_sem, f1, f2, f4, ht1, l2, e7, a1, a2, a3, g3, g4, xk1]
  have b2 := But.new (S := fun _ => False) hw1 (.cells [.int 3 zk, .int 3 zn, .int 3 yk, .int 3 yn, .int 3 kk, .int 3 kn] false)
  have hs2 : SlIs (M1.new (.cells [.int 3 zk, .int 3 zn, .int 3 yk, .int 3 yn, .int 3 kk, .int 3 kn] false)) (.slice M1.next 0 3 3) 2 (VlL [⟨zk, zn⟩, ⟨yk, yn⟩, ⟨kk, kn⟩]) := SlIs.made (X := VlL [⟨zk, zn⟩, ⟨yk, yn⟩, ⟨kk, kn⟩]) (x := [.int 3 zk, .int 3 zn, .int 3 yk, .int 3 yn, .int 3 kk, .int 3 kn]) (op := false) (by simp [Mem.new]) (by simp [VlL, VlR]) (by intro y hy; simp [VlL, VlR] at hy; rcases hy with rfl | rfl | rfl <;> rfl) rfl
  refine (leave_none D.h149 D.h77 D.h117 D.h143 hs2 (by show (3 : Nat) < 2 ^ 62; decide) (by intro w hw'; simp only [List.mem_cons, List.not_mem_nil, or_false] at hw'; rcases hw' with rfl | rfl | rfl <;> first | exact hrr.2 | exact hrr.1 | exact hkr)).use ?_
  rintro r M2 hw2 ⟨rfl, b3⟩
  have hB2 := hB1.keep ((b2.trans b3).any _)
  simp only [go_sem, f1, f4]
  refine (take_spec D.h150 hB2 hj (by omega)).use ?_
  rintro r M3 hw3 ⟨rfl, ⟨vp3, hB3⟩, b4⟩
  simp only [go_sem]
  exact ⟨rfl, ⟨own, va, vp3, hB3, fun p hp => .inl hp⟩, ((b0.trans (b1.trans (b2.trans b3))).any _).trans b4⟩

theorem put_b (D : PutT tbl) {M : Mem} {own : Own} {tp pk pv : Pos} {va vp vg : AV} {arr : List Vl} {prs : List (Vl × Vl)} {k v : Vl} {fr : Tr AV} {j : Nat} {M0 : Mem} (b0 : But (fun _ => False) M0 M) (hw : M.wf) (hB : DtB M own tp va vp vg arr prs) (hl : arr.length + prs.length ≤ 2 ^ 19)
    (hr : ∀ x ∈ prs, refV x.1 = false ∧ refV x.2 = false) (hkr : refV k = false) (f1 : fr.get (.o .h) = some (.ptr tp 0)) (f2 : fr.get (.o (.i .h)) = some (.ptr pk 0)) (f3 : fr.get (.i (.i .h)) = some (.ptr pv 0)) (f4 : fr.get (.o (.o (.o .h))) = some (.int 3 ((2 * j : Nat) : Int)))
    (xk : M.get pk = some (.cells [.int 3 k.k, .int 3 k.n] false)) (xv : M.get pv = some (.cells [.int 3 v.k, .int 3 v.n] false)) (ok : own pk = none) (ov : own pv = none) (hj : j < prs.length) (hv : nullV v = false) :
    CCode.wp tbl (seqTail 3 cf126.body) fr M (finW cf126.results (PutQ M0 own tp vg (arr, prs.set j (prs[j].1, v)))) := by
  obtain ⟨vk, vn⟩ := v
  obtain ⟨kk, kn⟩ := k
  have g : decide ((0 : Int) ≤ ((2 * j : Nat) : Int)) = true := by simp only [decide_eq_true_eq]; omega
  simp only [go_sem, cf126, seqTail, f1, f2, f3, f4, g, xv]
  refine (null_spec' D.h129 ⟨vk, vn⟩).use ?_
  rintro r M1 hw1 ⟨rfl, b1⟩
  rw [hv]
  have hB1 := hB.keep (b1.any _)
  have ht1 := hB1.tpc
  have xk1 := b1.get _ _ id xk
  have xv1 := b1.get _ _ id xv
  have l2 : slLen vp = some (2 * prs.length) := by rw [hB.prs_.len, flatV_len]
  have hfl : (flatP prs).length = 2 * prs.length := flatP_len _
  have e7 : IntKind.i64.wrap (((2 * j : Nat) : Int) + 1) = ((2 * j + 1 : Nat) : Int) := by rw [wrap64 (by omega) (by omega)]; omega
  obtain ⟨q, qo, a1, a2⟩ := vl_at hB1.prs_.rows (i := 2 * j + 1) (by omega)
  rw [hfl] at a1
  have k2 := flatP_val prs hj
  rw [List.getElem?_eq_getElem (by omega)] at k2
  rw [Option.some.inj k2] at a2
  have hrr := hr _ (List.getElem_mem hj)
  have hset := flatV_set prs hj ⟨vk, vn⟩
  generalize prs[j] = x at *
  obtain ⟨⟨yk, yn⟩, ⟨zk, zn⟩⟩ := x
  have g3 : 2 * j + 1 < 2 * prs.length := by omega
  simp only [go_sem, f1, f2, f4, g, ht1, l2, e7, a1, a2, g3, xk1]
  have b2 := But.new (S := fun _ => False) hw1 (.cells [.int 3 zk, .int 3 zn, .int 3 kk, .int 3 kn] false)
  have hs2 : SlIs (M1.new (.cells [.int 3 zk, .int 3 zn, .int 3 kk, .int 3 kn] false)) (.slice M1.next 0 2 2) 2 (VlL [⟨zk, zn⟩, ⟨kk, kn⟩]) := SlIs.made (X := VlL [⟨zk, zn⟩, ⟨kk, kn⟩]) (x := [.int 3 zk, .int 3 zn, .int 3 kk, .int 3 kn]) (op := false) (by simp [Mem.new]) (by simp [VlL, VlR]) (by intro y hy; simp [VlL, VlR] at hy; rcases hy with rfl | rfl <;> rfl) rfl
  refine (leave_none D.h149 D.h77 D.h117 D.h143 hs2 (by show (2 : Nat) < 2 ^ 62; decide) (by intro w hw'; simp only [List.mem_cons, List.not_mem_nil, or_false] at hw'; rcases hw' with rfl | rfl <;> first | exact hrr.2 | exact hkr)).use ?_
  rintro r M2 hw2 ⟨rfl, b3⟩
  have hB2 := hB1.keep ((b2.trans b3).any _)
  have ht2 := hB2.tpc
  have xv2 := (b2.trans b3).get _ _ id xv1
  obtain ⟨b, st, hq, ⟨b00, hb0⟩, s4⟩ := hB2.prs_.set_ (i := 2 * j + 1) (by rw [flatV_len]; exact g3) (x := [.int 3 vk, .int 3 vn]) rfl rfl a1
  rw [Mem.store_eq] at st
  rw [hset] at s4
  have hB3 := hB2.rowPrs hq s4
  have w3 : (M2.put q b).wf := hw2.put hb0 b
  simp only [go_sem, f1, f3, f4, ht2, l2, e7, a1, g3, xv2, st]
  exact ⟨rfl, ⟨own, va, vp, hB3, fun p hp => .inl hp⟩, ((b0.trans (b1.trans (b2.trans b3))).any _).trans (But.put (p := q) _ (by rw [hq]; simp) _)⟩

theorem put_c (D : PutT tbl) {M : Mem} {own : Own} {tp pk pv : Pos} {va vp vg : AV} {arr : List Vl} {prs : List (Vl × Vl)} {k v : Vl} {fr : Tr AV} {M0 : Mem} (b0 : But (fun _ => False) M0 M) (hw : M.wf) (hB : DtB M own tp va vp vg arr prs) (hl : arr.length + prs.length ≤ 2 ^ 19)
    (hkr : nullV v = true → refV k = false) (f1 : fr.get (.o .h) = some (.ptr tp 0)) (f2 : fr.get (.o (.i .h)) = some (.ptr pk 0)) (f3 : fr.get (.i (.i .h)) = some (.ptr pv 0)) (f4 : fr.get (.o (.o (.o .h))) = some (.int 3 (-1)))
    (xk : M.get pk = some (.cells [.int 3 k.k, .int 3 k.n] false)) (xv : M.get pv = some (.cells [.int 3 v.k, .int 3 v.n] false)) (ok : own pk = none) (ov : own pv = none) :
    CCode.wp tbl (seqTail 3 cf126.body) fr M (finW cf126.results (PutQ M0 own tp vg (if nullV v = true then (arr, prs) else if placedV k ((arr.length : Int) + 1) = true then growF prs.length (arr ++ [v]) prs else (arr, prs ++ [(k, v)])))) := by
  obtain ⟨vk, vn⟩ := v
  obtain ⟨kk, kn⟩ := k
  have g : decide ((0 : Int) ≤ -1) = false := rfl
  simp only [go_sem, cf126, seqTail, f1, f2, f3, f4, g, xv]
  refine (null_spec' D.h129 ⟨vk, vn⟩).use ?_
  rintro r M1 hw1 ⟨rfl, b1⟩
  have hB1 := hB.keep (b1.any _)
  have ht1 := hB1.tpc
  have xk1 := b1.get _ _ id xk
  have xv1 := b1.get _ _ id xv
  have e2 : IntKind.i64.wrap ((arr.length : Int) + 1) = (arr.length : Int) + 1 := wrap64 (by omega) (by omega)
  have l1 : slLen va = some arr.length := by rw [hB.arr_.len, vlL_len]
  cases hv : nullV ⟨vk, vn⟩ with
  | true =>
    simp only [go_sem, f1, f2, xk1]
    have b2 := But.new (S := fun _ => False) hw1 (.cells [.int 3 kk, .int 3 kn] false)
    have hs2 : SlIs (M1.new (.cells [.int 3 kk, .int 3 kn] false)) (.slice M1.next 0 1 1) 2 (VlL [⟨kk, kn⟩]) := SlIs.made (X := VlL [⟨kk, kn⟩]) (x := [.int 3 kk, .int 3 kn]) (op := false) (by simp [Mem.new]) (by simp [VlL, VlR]) (by intro y hy; simp [VlL, VlR] at hy; rcases hy with rfl; rfl) rfl
    refine (leave_none D.h149 D.h77 D.h117 D.h143 hs2 (by show (1 : Nat) < 2 ^ 62; decide) (by intro w hw'; simp only [List.mem_cons, List.not_mem_nil, or_false] at hw'; rcases hw' with rfl; exact hkr hv)).use ?_
    rintro r M2 hw2 ⟨rfl, b3⟩
    have hB2 := hB1.keep ((b2.trans b3).any _)
    simp only [go_sem]
    exact ⟨rfl, ⟨own, va, vp, hB2, fun p hp => .inl hp⟩, (b0.trans (b1.trans (b2.trans b3))).any _⟩
  | false =>
    simp only [go_sem, f1, f2, xk1, ht1, l1, e2]
    refine (placed_spec D.h128 ⟨kk, kn⟩ _).use ?_
    rintro r M2 hw2 ⟨rfl, b2⟩
    have hB2 := hB1.keep (b2.any _)
    have ht2 := hB2.tpc
    have xk2 := b2.get _ _ id xk1
    have xv2 := b2.get _ _ id xv1
    have hn2 := (b0.trans (b1.trans b2)).next
    cases hp : placedV ⟨kk, kn⟩ ((arr.length : Int) + 1) with
    | true =>
      simp only [go_sem, f1, f3, xv2]
      refine (grow_spec D.toDcT D.h151 D.h150 D.h148 D.h123 (v := ⟨vk, vn⟩) hB2 hl).use ?_
      rintro r M3 hw3 ⟨rfl, ⟨own3, va3, vp3, hB3, ho⟩, b3⟩
      simp only [go_sem]
      exact ⟨rfl, ⟨own3, va3, vp3, hB3, fun p hp => (ho p hp).imp id fun e => Nat.le_trans hn2 e⟩, ((b0.trans (b1.trans b2)).any _).trans b3⟩
    | false =>
      obtain ⟨v3, M3, own3, p3, s3, u3, b3, w3⟩ := hB2.prs_.push_ hw2 hB2.inn (n := 2) (c := 2) (X := [VlR ⟨kk, kn⟩, VlR ⟨vk, vn⟩]) (x := [.int 3 kk, .int 3 kn, .int 3 vk, .int 3 vn]) rfl rfl (by intro y hy; simp only [List.mem_cons, List.not_mem_nil, or_false] at hy; rcases hy with rfl | rfl <;> exact ⟨rfl, rfl⟩) (by omega) (by rw [flatV_len]; simp only [most, List.length_cons, List.length_nil]; omega)
      have hs3 : flatV prs ++ [VlR ⟨kk, kn⟩, VlR ⟨vk, vn⟩] = flatV (prs ++ [(⟨kk, kn⟩, ⟨vk, vn⟩)]) := by rw [flatV_app]; rfl
      rw [hs3] at s3
      have hc3 := s3.cell
      have hB3 := hB2.setPrs u3 b3 s3
      have ht3 := b3.get _ _ (fun e => by rw [hB2.tpo] at e; simp at e) hB2.tpc
      simp only [go_sem, f1, f2, f3, ht2, xk2, xv2, p3, hc3, ht3]
      refine ⟨rfl, ⟨own3, va, v3, hB3, fun p hp => ?_⟩, ((b0.trans (b1.trans b2)).any _).trans ((b3.mono fun p e => by rw [e]; simp).trans (But.put (p := tp) _ (by rw [hB.tpo]; simp) _))⟩
      rcases u3 p with e | ⟨_, _, e, _⟩
      · left; rw [e, hp]
      · right; exact Nat.le_trans hn2 e
theorem body126 : cf126.body = .seq (seqHead cf126.body) (.seq (seqHead (seqTail 1 cf126.body)) (.seq (seqHead (seqTail 2 cf126.body)) (seqTail 3 cf126.body))) := rfl

theorem put_spec (D : PutT tbl) {M : Mem} {own : Own} {tp : Pos} {va vp vg : AV} {arr : List Vl} {prs : List (Vl × Vl)} {k v : Vl} (hB : DtB M own tp va vp vg arr prs) (hl : arr.length + prs.length ≤ 2 ^ 19)
    (hra : ∀ x ∈ arr, refV x = false) (hr : ∀ x ∈ prs, refV x.1 = false ∧ refV x.2 = false) (hkr : refV k = false ∨ (prs = [] ∧ nullV v = false)) :
    CallW tbl 126 (.cons (.ptr tp 0) (.cons (VlA k) (.cons (VlA v) .nil))) M (PutQ M own tp vg (putT arr prs k v)) := by
  refine CallW.wf fun hw => ?_
  obtain ⟨vk, vn⟩ := v
  obtain ⟨kk, kn⟩ := k
  refine CallW.intro D.h126 rfl (fr := .nod (.val (.val .leaf (VlA ⟨vk, vn⟩) .leaf) (.ptr tp 0) .leaf) (.val .leaf (VlA ⟨kk, kn⟩) .leaf)) rfl ?_
  have htp := hB.tpc
  have ne1 := hw.ne htp
  have l1 : slLen va = some arr.length := by rw [hB.arr_.len, vlL_len]
  have b1 := But.new (S := fun _ => False) hw (.cells [.int 3 kk, .int 3 kn] false)
  have w1 := hw.new (.cells [.int 3 kk, .int 3 kn] false)
  have b2 := But.new (S := fun _ => False) w1 (.cells [.int 3 vk, .int 3 vn] false)
  have w2 := w1.new (.cells [.int 3 vk, .int 3 vn] false)
  have x1 : (M.new (.cells [.int 3 kk, .int 3 kn] false)).get M.next = some (.cells [.int 3 kk, .int 3 kn] false) := by simp only [go_sem]
  have xk := b2.get _ _ id x1
  have xv : ((M.new (.cells [.int 3 kk, .int 3 kn] false)).new (.cells [.int 3 vk, .int 3 vn] false)).get M.next.succ = some (.cells [.int 3 vk, .int 3 vn] false) := by simp only [go_sem]
  have hB2 := hB.keep ((b1.trans b2).any _)
  have ok : own M.next = none := by
    cases h : own M.next with
    | none => rfl
    | some t => exact absurd (hB.inn _ (by rw [h]; simp)) (Nat.lt_irrefl _)
  have ov : own M.next.succ = none := by
    cases h : own M.next.succ with
    | none => rfl
    | some t => have := hB.inn _ (by rw [h]; simp); have e : M.next.succ.num = M.next.num + 1 := Pos.num_succ _; omega
  have hn2 := (b1.trans b2).next
  have tail := fun (fr : Tr AV) (M2 : Mem) (h : M2.wf) (b : But (fun _ => False) ((M.new (.cells [.int 3 kk, .int 3 kn] false)).new (.cells [.int 3 vk, .int 3 vn] false)) M2) (f1 : fr.get (.o .h) = some (.ptr tp 0)) (f2 : fr.get (.o (.i .h)) = some (.ptr M.next 0)) (f3 : fr.get (.i (.i .h)) = some (.ptr M.next.succ 0)) (f4 : fr.get (.o (.o (.o .h))) = some (.int 3 (posI prs ⟨kk, kn⟩))) (hp : placedV ⟨kk, kn⟩ arr.length = false) =>
    (show CCode.wp tbl (seqTail 3 cf126.body) fr M2 (finW cf126.results (PutQ M own tp vg (putT arr prs ⟨kk, kn⟩ ⟨vk, vn⟩))) from by
      simp only [putT, hp, Bool.false_eq_true, if_false]
      cases hpos : posP prs ⟨kk, kn⟩ with
      | none =>
        have hpi : posI prs ⟨kk, kn⟩ = -1 := by simp only [posI, hpos]
        rw [hpi] at f4
        exact put_c D ((b1.trans b2).trans b) h (hB2.keep (b.any _)) hl (fun h => hkr.elim id fun e => by rw [e.2] at h; cases h) f1 f2 f3 f4 (b.get _ _ id xk) (b.get _ _ id xv) ok ov
      | some j =>
        have hj := posP_lt hpos
        have hkr : refV ⟨kk, kn⟩ = false := hkr.elim id fun e => by rw [e.1] at hj; exact absurd hj (by simp)
        have hpi : posI prs ⟨kk, kn⟩ = ((2 * j : Nat) : Int) := by simp only [posI, hpos]
        rw [hpi] at f4
        cases hv : nullV ⟨vk, vn⟩ with
        | true => exact put_a D ((b1.trans b2).trans b) h (hB2.keep (b.any _)) hl hr hkr f1 f2 f3 f4 (b.get _ _ id xk) (b.get _ _ id xv) ok ov hj hv
        | false =>
          simp only [Bool.false_eq_true, if_false, List.getElem?_eq_getElem hj, Option.map_some, Option.getD_some]
          exact put_b D ((b1.trans b2).trans b) h (hB2.keep (b.any _)) hl hr hkr f1 f2 f3 f4 (b.get _ _ id xk) (b.get _ _ id xv) ok ov hj hv)
  rw [body126]
  generalize seqTail 3 cf126.body = tl at *
  generalize hM2 : (M.new (.cells [.int 3 kk, .int 3 kn] false)).new (.cells [.int 3 vk, .int 3 vn] false) = M2 at *
  have ht2 := hB2.tpc
  simp only [go_sem, cf126, seqHead, seqTail, VlA, htp, ne1, l1, xk, hM2, ht2]
  refine (placed_spec D.h128 ⟨kk, kn⟩ _).use ?_
  rintro r M3 hw3 ⟨rfl, b3⟩
  have hB3 := hB2.keep (b3.any _)
  have ht3 := hB3.tpc
  have xk3 := b3.get _ _ id xk
  have xv3 := b3.get _ _ id xv
  cases hp : placedV ⟨kk, kn⟩ (arr.length : Int) with
  | true =>
    have hp' := hp
    simp only [placedV, Bool.and_eq_true, decide_eq_true_eq] at hp'
    obtain ⟨hk3, hk1, hk2⟩ := hp'
    have e1 : IntKind.i64.wrap (kn - 1) = ((kn.toNat - 1 : Nat) : Int) := by rw [wrap64 (by omega) (by omega)]; omega
    have hi : kn.toNat - 1 < arr.length := by omega
    simp only [go_sem, xk3, xv3, e1]
    refine (lay_spec D.toDcT D.h147 D.h149 D.h77 (v := ⟨vk, vn⟩) hB3 hi (by omega) (hra _ (List.getElem_mem hi))).use ?_
    rintro r M4 hw4 ⟨rfl, ⟨va4, hB4⟩, b4⟩
    simp only [go_sem]
    refine ⟨rfl, ⟨own, va4, vp, ?_, fun p hp => .inl hp⟩, (((b1.trans b2).trans b3).any _).trans b4⟩
    simp only [putT, hp, if_true]
    exact hB4
  | false =>
    simp only [go_sem, xk3]
    refine (find_spec (l := prs) (k := ⟨kk, kn⟩) D.h148 (by omega) ht3 hB3.prs_.rows).use ?_
    rintro r M4 hw4 ⟨rfl, b4⟩
    simp only [go_sem]
    refine tail _ _ hw4 (b3.trans b4) ?_ ?_ ?_ ?_ hp
    all_goals first | rfl | simp [Tr.get_set]
end Go.Proofs.Ythpnhdopheofcaa

end
section
namespace Go.Proofs.Ythpnhdopheofcaa
open Go.Dx
variable {tbl : Nat → Option CFunc}

theorem OwnUp.trans_ {t : Tag} {M M1 M2 : Mem} {a b c : Own} (h1 : OwnUp t M M1 a b) (h2 : OwnUp t M1 M2 b c) (n1 : M.next.num ≤ M1.next.num) (n2 : M1.next.num ≤ M2.next.num) : OwnUp t M M2 a c := fun p => by
  rcases h2 p with e | ⟨e1, e2, e3, e4⟩
  · rw [e]
    rcases h1 p with e' | ⟨e1, e2, e3, e4⟩
    · exact .inl e'
    · exact .inr ⟨e1, e2, e3, by omega⟩
  · rcases h1 p with e' | ⟨k1, k2, k3, k4⟩
    · exact .inr ⟨by rw [← e', e1], e2, by omega, e4⟩
    · rw [e1] at k2; cases k2

theorem FreshSl.app {M M1 : Mem} {v u : AV} {size : Nat} {L X : List (List AV)} (h : FreshSl M M1 v size L) (hb : But (fun _ => False) M M1) (hw : M.wf) (hw1 : M1.wf) (hu : SlIs M1 u size X) (hn : lenOf u = some X.length) (hst : ∀ l n, u ≠ .str l n) (hc : ∀ x ∈ X, x.all isCell = true) (hs : 0 < size) (hm : L.length + X.length ≤ most) :
    ∃ v' M2, appO M1 size v u = some (v', M2) ∧ FreshSl M M2 v' size (L ++ X) ∧ But (fun _ => False) M M2 ∧ M2.wf := by
  have hsrc := hu.src hn hst
  have hx : ∀ x ∈ X, x.length = size ∧ x.all isCell = true := fun x h => ⟨hu.2.1 x h, hc x h⟩
  have key : ∀ (own : Own) (t : Tag), own.in M → ∃ own', OwnUp t M M1 own own' ∧ ∃ v' M' own'', appendM M1 size X.length X.flatten v = some (v', M') ∧ SlO M' own'' t v' size (L ++ X) ∧ OwnUp t M1 M' own' own'' ∧ But (fun p => own' p = some t) M1 M' ∧ M'.wf := fun own t hi => by
    obtain ⟨own', u1, s1⟩ := h own t hi
    exact ⟨own', u1, s1.append_ hw1 (u1.in_ hi hb.next) hx hs hm⟩
  obtain ⟨own', u1, v', M', own'', h1, h2, h3, h4, h5⟩ := key (fun _ => none) (0, 0) (fun p h => absurd rfl h)
  have hb4 : But (fun p => M.next.num ≤ p.num) M1 M' := h4.mono fun p hp => by
    rcases u1 p with e | ⟨_, _, e, _⟩
    · rw [e] at hp; cases hp
    · exact e
  refine ⟨v', M', ?_, fun own t hi => ?_, But.fresh hw ((hb.any _).trans (hb4.mono fun p e => .inr e)), h5⟩
  · simp only [appO, hn, Option.bind_some, hsrc]; exact h1
  · obtain ⟨o1, u2, w, M'', o2, g1, g2, g3, g4, g5⟩ := key own t hi
    rw [h1] at g1
    cases g1
    exact ⟨o2, OwnUp.trans_ u2 g3 hb.next g4.next, g2⟩

theorem FreshSl.nil_ (M M' : Mem) (size : Nat) : FreshSl M M' .nilslice size [] := fun own t _ => ⟨own, OwnUp.refl _ _ _ _, SlO.nil _ _ _ _⟩

/-- slices.Grow of nothing. -/
theorem grow0_spec (h : tbl 152 = some cf152) {M : Mem} {n : Nat} (hn : n ≤ 2 ^ 22) :
    CallW tbl 152 (.cons .nilslice (.cons (.int 3 (n : Int)) .nil)) M fun r M' => ∃ v, r = .ret v ∧ But (fun _ => False) M M' ∧ FreshSl M M' v 2 [] := by
  refine CallW.wf fun hw => ?_
  refine CallW.intro h rfl (fr := .nod (.val .leaf .nilslice .leaf) (.val .leaf (.int 3 (n : Int)) .leaf)) rfl ?_
  have g1 : decide ((n : Int) < 0) = false := by simp only [decide_eq_false_iff_not]; omega
  have e0 : IntKind.i64.wrap (0 - 0) = 0 := rfl
  have e1 : IntKind.i64.wrap ((n : Int) - 0) = (n : Int) := by rw [wrap64 (by omega) (by omega)]; omega
  by_cases h0 : 0 < n
  · have g2 : decide ((0 : Int) < (n : Int)) = true := by simp only [decide_eq_true_eq]; omega
    have q0 : sliceM M 2 none (some 0) none .nilslice = some .nilslice := rfl
    have n0 : natO (AV.int 3 (n : Int)) = some n := by simp [natO]
    simp only [go_sem, cf152, g1, e0, e1, g2, q0, n0]
    have hrl := repl_len (AV.cons (.int 3 0) (.cons (.int 3 0) .nil)) rfl n
    refine ⟨⟨by simp only [most]; omega, rfl⟩, ?_⟩
    have hrz : ∀ n, (repl (AV.cons (.int 3 0) (.cons (.int 3 0) .nil)) n).toL = (List.replicate n [AV.int 3 0, AV.int 3 0]).flatten := by
      intro n
      induction n with
      | zero => rfl
      | succ n ih =>
        rw [List.replicate_succ, List.flatten_cons, ← ih]
        rfl
    have hx : ∀ x ∈ List.replicate n [AV.int 3 0, AV.int 3 0], x.length = 2 ∧ x.all isCell = true := fun x hx => by rw [(List.mem_replicate.1 hx).2]; exact ⟨rfl, rfl⟩
    have app := fun (own : Own) (t : Tag) (hi : own.in M) => (SlO.nil M own t 2).append_ hw hi hx (by omega) (by simp only [most, List.length_nil, List.length_replicate]; omega)
    obtain ⟨v', M', own', h1, h2, h3, h4, h5⟩ := app (fun _ => none) (0, 0) (fun p h => absurd rfl h)
    obtain ⟨v2, k1, k2⟩ := h2.take_ (by omega) (k := 0) (Nat.zero_le _)
    rw [List.length_replicate] at h1
    simp only [go_sem]
    refine ⟨hrl.2, ?_⟩
    rw [hrz]
    simp only [go_sem, h1, k1]
    have n1 : natO (AV.int 3 0) = some 0 := rfl
    refine ⟨_, rfl, (h4.mono fun p h => by cases h), fun own t hi => ?_⟩
    obtain ⟨w, M2, o2, g1, g2, g3, g4, g5⟩ := app own t hi
    rw [List.length_replicate, h1] at g1
    cases g1
    obtain ⟨w2, r1, r2⟩ := g2.take_ (by omega) (k := 0) (Nat.zero_le _)
    rw [k1] at r1
    cases r1
    exact ⟨o2, g3, r2⟩
  · have g2 : decide ((0 : Int) < (n : Int)) = false := by simp only [decide_eq_false_iff_not]; omega
    simp only [go_sem, cf152, g1, e0, e1, g2]
    exact ⟨_, rfl, But.refl _ _, FreshSl.nil_ _ _ _⟩
/-- Values of many slices, one behind the other. -/
def catV (ss : List (AV × List Vl)) : List Vl := (ss.map (·.2)).flatten
theorem catV_take (ss : List (AV × List Vl)) {i : Nat} (hi : i < ss.length) : catV (ss.take (i + 1)) = catV (ss.take i) ++ (ss[i]).2 := by
  rw [catV, List.take_succ_eq_append_getElem hi, List.map_append, List.flatten_append]
  simp only [List.map_cons, List.map_nil, List.flatten_cons, List.flatten_nil, List.append_nil]
  rfl
theorem catV_le (ss : List (AV × List Vl)) (i : Nat) : (catV (ss.take i)).length ≤ (catV ss).length := by
  conv => rhs; rw [← List.take_append_drop i ss]
  simp only [catV, List.map_append, List.flatten_append, List.length_append]
  omega

theorem concat_spec (h : tbl 127 = some cf127) (h152 : tbl 152 = some cf152) {M : Mem} {sv : AV} {ss : List (AV × List Vl)} (hs : SlIs M sv 1 (ss.map fun s => [s.1])) (hss : ∀ s ∈ ss, SlIs M s.1 2 (VlL s.2) ∧ lenOf s.1 = some s.2.length ∧ ∀ l n, s.1 ≠ .str l n) (hl : ss.length ≤ 2 ^ 20) (hm : (catV ss).length ≤ 2 ^ 22) :
    CallW tbl 127 (.cons sv .nil) M fun r M' => ∃ v, r = .ret v ∧ But (fun _ => False) M M' ∧ FreshSl M M' v 2 (VlL (catV ss)) := by
  refine CallW.wf fun hw => ?_
  refine CallW.intro h rfl (fr := .nod (.val .leaf sv .leaf) .leaf) rfl ?_
  have hlen := hs.len
  rw [List.length_map] at hlen
  have hml : (ss.map fun s => [s.1]).length = ss.length := List.length_map _
  simp only [go_sem, cf127, hlen]
  refine loop_wp (I := fun n fr M' => n ≤ ss.length ∧ M' = M ∧ fr.get (.o .h) = some sv ∧ fr.get (.i (.i (.o .h))) = some sv ∧ fr.get (.o (.o (.i .h))) = some (.int 3 ss.length) ∧ fr.get (.i (.o (.i .h))) = some (.int 3 ((ss.length - n : Nat) : Int)) ∧ fr.get (.i (.o .h)) = some (.int 3 ((catV (ss.take (ss.length - n))).length : Int))) (n := ss.length) ?_ ?_
  · exact ⟨Nat.le_refl _, rfl, rfl, rfl, rfl, by rw [Nat.sub_self]; rfl, by rw [Nat.sub_self]; rfl⟩
  · rintro n fr M' ⟨i1, rfl, f1, f2, f3, f4, f5⟩
    cases n with
    | succ n =>
      have g1 : decide (((ss.length - (n + 1) : Nat) : Int) < (ss.length : Int)) = true := by simp only [decide_eq_true_eq]; omega
      have hi : ss.length - (n + 1) < ss.length := by omega
      obtain ⟨p, po, a1, a2⟩ := hs.at_ (i := ss.length - (n + 1)) (by rw [hml]; exact hi)
      rw [hml] at a1
      have a3 : (ss.map fun s => [s.1])[ss.length - (n + 1)]? = some [(ss[ss.length - (n + 1)]).1] := by simp [hi]
      rw [a3] at a2
      have a4 : MB.cell (M'.get p) (po + (ss.length - (n + 1)) * 1) = some (ss[ss.length - (n + 1)]).1 := by have := MB.cell_row a2 (j := 0) (by omega); simpa using this
      have hx := hss _ (List.getElem_mem hi)
      have ht := catV_take ss hi
      have hle := catV_le ss (ss.length - (n + 1) + 1)
      generalize ss[ss.length - (n + 1)] = x at *
      obtain ⟨xa, xl⟩ := x
      have hxl := hx.1.len
      rw [vlL_len] at hxl
      have e0 : ss.length - n = ss.length - (n + 1) + 1 := by omega
      rw [ht, List.length_append] at hle
      generalize hcl : (catV (ss.take (ss.length - (n + 1)))).length = cl at *
      have e1 : IntKind.i64.wrap ((cl : Int) + (xl.length : Int)) = ((cl + xl.length : Nat) : Int) := by rw [wrap64 (by omega) (by simp only at *; omega)]; omega
      have e2 : IntKind.i64.wrap (((ss.length - (n + 1) : Nat) : Int) + 1) = ((ss.length - n : Nat) : Int) := by rw [wrap64 (by omega) (by omega)]; omega
      have g2 : decide (((cl + xl.length : Nat) : Int) < 0) = false := by simp only [decide_eq_false_iff_not]; omega
      simp only at hxl
      simp only [go_sem, f1, f2, f3, f4, f5, g1, a1, hi, a4, hxl, e1, e2, g2]
      refine ⟨n, by omega, by omega, rfl, by simp [Tr.get_set, f1], by simp [Tr.get_set, f2], by simp [Tr.get_set, f3], by rw [Tr.get_set]; rfl, ?_⟩
      rw [e0, ht, List.length_append, hcl]
      simp only [Tr.get_set]
      rfl
    | zero =>
      have g1 : decide (((ss.length - 0 : Nat) : Int) < (ss.length : Int)) = false := by simp only [decide_eq_false_iff_not]; omega
      rw [Nat.sub_zero, List.take_length] at f5
      simp only [go_sem, f1, f2, f3, f4, f5, g1]
      refine (grow0_spec h152 hm).use ?_
      rintro r M1 hw1 ⟨v1, rfl, b1, s1⟩
      simp only [go_sem, f1, hlen]
      refine loop_wp (I := fun n fr M2 => n ≤ ss.length ∧ M2.wf ∧ But (fun _ => False) M' M2 ∧ (∃ v, FreshSl M' M2 v 2 (VlL (catV (ss.take (ss.length - n)))) ∧ fr.get (.o (.o (.o .h))) = some v) ∧ fr.get (.i (.i (.o (.i .h)))) = some sv ∧ fr.get (.o (.o (.i (.i .h)))) = some (.int 3 ss.length) ∧ fr.get (.i (.o (.i (.i .h)))) = some (.int 3 ((ss.length - n : Nat) : Int))) (n := ss.length) ?_ ?_
      · exact ⟨Nat.le_refl _, hw1, b1, ⟨v1, by rw [Nat.sub_self]; exact s1, by simp [Tr.get_set]⟩, by simp [Tr.get_set], by simp [Tr.get_set], by rw [Nat.sub_self]; simp [Tr.get_set]⟩
      · rintro n fr M2 ⟨i1, i2, i3, ⟨v, i4, f5⟩, f2, f3, f4⟩
        cases n with
        | zero =>
          have g1 : decide (((ss.length - 0 : Nat) : Int) < (ss.length : Int)) = false := by simp only [decide_eq_false_iff_not]; omega
          rw [Nat.sub_zero, List.take_length] at i4
          simp only [go_sem, f2, f3, f4, f5, g1]
          exact ⟨v, rfl, i3, i4⟩
        | succ n =>
          have g1 : decide (((ss.length - (n + 1) : Nat) : Int) < (ss.length : Int)) = true := by simp only [decide_eq_true_eq]; omega
          have hi : ss.length - (n + 1) < ss.length := by omega
          obtain ⟨p, po, a1, a2⟩ := (hs.old i3.old).at_ (i := ss.length - (n + 1)) (by rw [hml]; exact hi)
          rw [hml] at a1
          have a3 : (ss.map fun s => [s.1])[ss.length - (n + 1)]? = some [(ss[ss.length - (n + 1)]).1] := by simp [hi]
          rw [a3] at a2
          have a4 : MB.cell (M2.get p) (po + (ss.length - (n + 1)) * 1) = some (ss[ss.length - (n + 1)]).1 := by have := MB.cell_row a2 (j := 0) (by omega); simpa using this
          have hx := hss _ (List.getElem_mem hi)
          have ht := catV_take ss hi
          have hle := catV_le ss (ss.length - (n + 1) + 1)
          generalize ss[ss.length - (n + 1)] = x at *
          obtain ⟨xa, xl⟩ := x
          rw [ht, List.length_append] at hle
          simp only at hle
          obtain ⟨v3, M3, p3, s3, b3, w3⟩ := i4.app i3 hw i2 (hx.1.old i3.old) (by rw [vlL_len]; exact hx.2.1) hx.2.2 (fun y hy => by obtain ⟨z, _, rfl⟩ := List.mem_map.1 hy; rfl) (by omega) (by rw [vlL_len, vlL_len]; simp only [most]; omega)
          have e0 : ss.length - n = ss.length - (n + 1) + 1 := by omega
          have hv : VlL (catV (ss.take (ss.length - (n + 1)))) ++ VlL xl = VlL (catV (ss.take (ss.length - n))) := by rw [e0, ht]; simp [VlL]
          simp only at s3
          rw [hv] at s3
          have e2 : IntKind.i64.wrap (((ss.length - (n + 1) : Nat) : Int) + 1) = ((ss.length - n : Nat) : Int) := by rw [wrap64 (by omega) (by omega)]; omega
          simp only at p3
          simp only [go_sem, f2, f3, f4, f5, g1, a1, hi, a4, e2, p3]
          exact ⟨n, by omega, by omega, w3, b3, ⟨v3, s3, by simp [Tr.get_set]⟩, by simp [Tr.get_set, f2], by simp [Tr.get_set, f3], by rw [Tr.get_set]; rfl⟩
end Go.Proofs.Ythpnhdopheofcaa

end
section
namespace Go.Proofs.Ythpnhdopheofcaa
open Go.Dx
variable {tbl : Nat → Option CFunc}

theorem growF_len : ∀ (n : Nat) (a : List Vl) (l : List (Vl × Vl)), (growF n a l).1.length + 2 * (growF n a l).2.length ≤ a.length + 2 * l.length
  | 0, a, l => Nat.le_refl _
  | n + 1, a, l => by
    unfold growF
    cases h : posP l ⟨3, (a.length : Int) + 1⟩ with
    | none => exact Nat.le_refl _
    | some j =>
      have hj := posP_lt h
      have := growF_len n (a ++ [((l[j]?).map (·.2)).getD ⟨1, 0⟩]) (takeP l j)
      rw [takeP_len hj, List.length_append, List.length_singleton] at this
      simp only
      omega
theorem trimF_len : ∀ (n : Nat) (l : List Vl), (trimF n l).length ≤ l.length
  | 0, l => Nat.le_refl _
  | n + 1, l => by
    unfold trimF
    cases h : l.getLast? with
    | none => exact Nat.le_refl _
    | some v =>
      simp only
      split
      · have := trimF_len n l.dropLast
        rw [List.length_dropLast] at this
        omega
      · exact Nat.le_refl _
theorem layV_len (l : List Vl) (i : Nat) (v : Vl) : (layV l i v).length ≤ l.length := by
  unfold layV
  split
  · rw [List.length_set]; exact Nat.le_refl _
  · have := trimF_len l.length (l.set i v)
    rw [List.length_set] at this
    exact this
theorem putT_len (arr : List Vl) (prs : List (Vl × Vl)) (k v : Vl) : (putT arr prs k v).1.length + 2 * (putT arr prs k v).2.length ≤ arr.length + 2 * prs.length + 2 := by
  unfold putT
  split
  · have := layV_len arr (k.n.toNat - 1) v
    simp only; omega
  · cases h : posP prs k with
    | some j =>
      have hj := posP_lt h
      simp only
      split
      · simp only [takeP_len hj]; omega
      · simp only [List.length_set]; omega
    | none =>
      simp only
      split
      · simp only; omega
      · split
        · have := growF_len prs.length (arr ++ [v]) prs
          rw [List.length_append, List.length_singleton] at this
          omega
        · simp only [List.length_append, List.length_singleton]; omega

def Tb.put (T : Tb) (k v : Vl) : Tb := ⟨T.met, (putT T.arr T.prs k v).1, (putT T.arr T.prs k v).2⟩

theorem slO_nostr {M : Mem} {own : Own} {t : Tag} {v : AV} {size : Nat} {L : List (List AV)} (h : SlO M own t v size L) : ∀ l n, v ≠ .str l n := by
  rintro l n rfl
  have := h.len
  cases this

theorem body90 : cf90.body = .seq (seqHead cf90.body) (.seq (seqHead (seqTail 1 cf90.body)) (.seq (seqHead (seqTail 2 cf90.body)) (.seq (seqHead (seqTail 3 cf90.body)) (seqTail 4 cf90.body)))) := rfl

theorem dput_tail (D : PutT tbl) (h76 : tbl 76 = some cf76) (h127 : tbl 127 = some cf127) (h152 : tbl 152 = some cf152) {M0 M : Mem} {sv a p : AV} {pk pv : Pos} {T : Tb} {k v : Vl} {fr : Tr AV} (b0 : But (fun _ => False) M0 M) (hw0 : M0.wf) (hw : M.wf) (hs : SlIs M sv 2 (VlL T.slots)) (hl : T.slots.length ≤ 2 ^ 19)
    (sa : SlIs M a 2 (VlL T.arr)) (sp : SlIs M p 2 (VlL (flatP T.prs)))
    (hra : ∀ x ∈ T.arr, refV x = false) (hr : ∀ x ∈ T.prs, refV x.1 = false ∧ refV x.2 = false) (hkr : refV k = false ∨ (T.prs = [] ∧ nullV v = false))
    (f1 : fr.get (.o .h) = some sv) (f2 : fr.get (.o (.i .h)) = some (.ptr pk 0)) (f3 : fr.get (.i (.i .h)) = some (.ptr pv 0)) (f4 : fr.get (.i (.i (.o .h))) = some a) (f5 : fr.get (.o (.o (.i .h))) = some p)
    (xk : M.get pk = some (.cells [.int 3 k.k, .int 3 k.n] false)) (xv : M.get pv = some (.cells [.int 3 v.k, .int 3 v.n] false)) :
    CCode.wp tbl (seqTail 4 cf90.body) fr M (finW cf90.results fun r M' => ∃ nv, r = .ret (.tuple (.cons nv (.cons .nilslice (.cons (.int 3 0) .nil)))) ∧ But (fun _ => False) M0 M' ∧ FreshSl M0 M' nv 2 (VlL (T.put k v).slots)) := by
  obtain ⟨vk, vn⟩ := v
  obtain ⟨kk, kn⟩ := k
  have hn : T.slots.length = T.arr.length + 2 * T.prs.length + 2 := by simp only [Tb.slots, List.length_cons, List.length_append, flatP_len]
  simp only [go_sem, cf90, seqTail, f1, f2, f3, f4, f5]
  refine (clone_spec h76 sa (vlL_cells _) (by rw [vlL_len]; simp only [most]; omega)).use ?_
  rintro r M1 hw1 ⟨va, rfl, b1, s1⟩
  simp only [go_sem, f5]
  refine (clone_spec h76 (sp.old b1.old) (vlL_cells _) (by rw [vlL_len, flatP_len]; simp only [most]; omega)).use ?_
  rintro r M2 hw2 ⟨vp, rfl, b2, s2⟩
  have c1 := s1.cell
  have c2 := s2.cell
  obtain ⟨own1, u1, o1⟩ := s1 (fun _ => none) (31, 0) (fun p h => absurd rfl h)
  have i1 : own1.in M1 := u1.in_ (fun p h => absurd rfl h) b1.next
  obtain ⟨own2, u2, o2⟩ := s2 own1 (32, 0) i1
  have i2 : own2.in M2 := u2.in_ i1 b2.next
  have b3 := But.new (S := fun _ => False) hw2 (.cells [va, vp, .nilslice] false)
  have w3 := hw2.new (.cells [va, vp, .nilslice] false)
  have u3 := ownUp_new (t := (30, 0)) (M' := M2.new (.cells [va, vp, .nilslice] false)) i2 rfl
  have hB : DtB (M2.new (.cells [va, vp, .nilslice] false)) (own2.with M2.next (30, 0)) M2.next va vp .nilslice T.arr T.prs := by
    refine ⟨u3.in_ i2 b3.next, ?_, by simp [Mem.new], ?_, ?_, SlO.nil _ _ _ _⟩
    · simp [Own.with]
    · exact o1.keep (fun p b _ hp => (b2.trans b3).get p b id hp) fun p ho => u3.old (u2.old ho)
    · exact o2.keep (fun p b _ hp => b3.get p b id hp) fun p ho => u3.old ho
  have hown : ∀ p, (own2.with M2.next (30, 0)) p ≠ none → M.next.num ≤ p.num := fun p hp => by
    have n1 := b1.next
    have n2 := b2.next
    rcases u3 p with e | ⟨_, _, e, _⟩
    · rw [e] at hp
      rcases u2 p with e | ⟨_, _, e, _⟩
      · rw [e] at hp
        rcases u1 p with e | ⟨_, _, e, _⟩
        · rw [e] at hp; exact absurd rfl hp
        · exact e
      · omega
    · omega
  have xk3 := ((b1.trans b2).trans b3).get _ _ id xk
  have xv3 := ((b1.trans b2).trans b3).get _ _ id xv
  simp only [go_sem, c1, c2, f2, f3, xk3, xv3]
  generalize hM3 : M2.new (.cells [va, vp, .nilslice] false) = M3 at *
  refine (put_spec D (k := ⟨kk, kn⟩) (v := ⟨vk, vn⟩) hB (by omega) hra hr hkr).use ?_
  rintro r M4 hw4 ⟨rfl, ⟨own4, va4, vp4, hB4, ho4⟩, b4⟩
  generalize hX : putT T.arr T.prs ⟨kk, kn⟩ ⟨vk, vn⟩ = X at *
  have hXl := putT_len T.arr T.prs ⟨kk, kn⟩ ⟨vk, vn⟩
  rw [hX] at hXl
  have b123 := (b1.trans b2).trans b3
  have hb4 : But (fun _ => False) M0 M4 := But.fresh hw0 (((b0.trans b123).any _).trans (b4.mono fun p hp => .inr (Nat.le_trans b0.next (hown p hp))))
  have hb4' : But (fun _ => False) M M4 := But.fresh hw ((b123.any _).trans (b4.mono fun p hp => .inr (hown p hp)))
  have ht4 := hB4.tpc
  have ne4 := hw4.ne ht4
  have l4 : slLen va4 = some X.1.length := by rw [hB4.arr_.len, vlL_len]
  simp only [go_sem, ht4, ne4, l4]
  refine (integer_spec D.h123 _).use ?_
  rintro r M5 hw5 ⟨rfl, b50⟩
  have b5s : But (fun _ => False) M4 ⟨M4.next.succ.succ, M4.get⟩ := ⟨by show M4.next.num ≤ M4.next.succ.succ.num; rw [Pos.num_succ, Pos.num_succ]; omega, fun _ _ _ h => h⟩
  have b5 := b5s.trans b50
  have hB5 := hB4.keep (b5.any _)
  have ht5 := hB5.tpc
  have ne5 := hw5.ne ht5
  obtain ⟨q, qo, a1, a2⟩ := vl_at (hs.old (hb4'.trans b5).old) (i := 0) (by omega)
  have hs0 : T.slots[0]'(by omega) = T.met := rfl
  rw [hs0] at a2
  have c4 := hB5.arr_.cell
  have c5 := hB5.prs_.cell
  have a3 : MB.cellsAt (M5.get q) (qo + 0) 2 = some [.int 3 T.met.k, .int 3 T.met.n] := by simpa using a2
  have g0 : 0 < T.slots.length := by omega
  obtain ⟨q', qo', a1', a2'⟩ := vl_at (hs.old hb4'.old) (i := 0) (by omega)
  rw [a1] at a1'
  cases a1'
  rw [hs0] at a2'
  have a4 : MB.cellsAt (M4.get q) (qo + 0) 2 = some [.int 3 T.met.k, .int 3 T.met.n] := by simpa using a2'
  have hn50 := b50.next
  have n0 : M4.next.succ.num = M4.next.num + 1 := Pos.num_succ _
  have n1 : M4.next.succ.succ.num = M4.next.num + 2 := by rw [Pos.num_succ, n0]
  have hn5 : M4.next.num + 2 ≤ M5.next.num := by rw [← n1]; exact hn50
  have m1 : M4.next.num < M5.next.num := by omega
  have m2 : M4.next.num < M4.next.succ.succ.num := by omega
  have m3 : M4.next.succ.num < M5.next.num := by omega
  have m4 : M4.next.succ.num < M4.next.succ.succ.num := by omega
  have m5 : M2.next.num < M4.next.num := hw4 _ _ ht4
  have ne6 : (M2.next = M4.next.succ) = False := Pos.ne_of_lt (by omega)
  simp only [go_sem, f1, ht5, ht4, ne4, ne5, ne6, a1, a3, a4, g0, c4, c5, VlA, m1, m2, m3, m4]
  have hne : (M4.next = M4.next.succ) = False := Pos.ne_of_lt (by omega)
  have on4 : ∀ p : Pos, M4.next.num ≤ p.num → own4 p = none := fun p hp => by
    cases h : own4 p with
    | none => rfl
    | some t => have := hB4.inn p (by rw [h]; simp); omega
  have bp : But (fun p => own4 p = none ∧ M.next.num ≤ p.num) M5 ((M5.put M4.next (.cells [.int 3 T.met.k, .int 3 T.met.n, .int 3 3, .int 3 ↑X.1.length] false)).put M4.next.succ (.cells [.slice M4.next 0 2 2, va4, vp4] false)) := by
    have hn4 := hb4'.next
    exact (But.put (p := M4.next) _ ⟨on4 _ (Nat.le_refl _), hn4⟩ _).trans (But.put (p := M4.next.succ) _ ⟨on4 _ (by omega), by omega⟩ _)
  have hB6 := hB5.keep (bp.mono fun p h => h.1)
  have g61 : ((M5.put M4.next (.cells [.int 3 T.met.k, .int 3 T.met.n, .int 3 3, .int 3 ↑X.1.length] false)).put M4.next.succ (.cells [.slice M4.next 0 2 2, va4, vp4] false)).get M4.next = some (.cells [.int 3 T.met.k, .int 3 T.met.n, .int 3 3, .int 3 ↑X.1.length] false) := by simp [Mem.put, hne]
  have g62 : ((M5.put M4.next (.cells [.int 3 T.met.k, .int 3 T.met.n, .int 3 3, .int 3 ↑X.1.length] false)).put M4.next.succ (.cells [.slice M4.next 0 2 2, va4, vp4] false)).get M4.next.succ = some (.cells [.slice M4.next 0 2 2, va4, vp4] false) := by simp [Mem.put]
  generalize hM6 : (M5.put M4.next (.cells [.int 3 T.met.k, .int 3 T.met.n, .int 3 3, .int 3 ↑X.1.length] false)).put M4.next.succ (.cells [.slice M4.next 0 2 2, va4, vp4] false) = M6 at *
  have h61 : SlIs M6 (.slice M4.next 0 2 2) 2 (VlL [T.met, ⟨3, (X.1.length : Int)⟩]) := SlIs.made (X := VlL [T.met, ⟨3, (X.1.length : Int)⟩]) g61 (by simp [VlL, VlR]) (by intro y hy; simp [VlL, VlR] at hy; rcases hy with rfl | rfl <;> rfl) rfl
  have h62 : SlIs M6 (.slice M4.next.succ 0 3 3) 1 [[.slice M4.next 0 2 2], [va4], [vp4]] := SlIs.made (X := [[.slice M4.next 0 2 2], [va4], [vp4]]) g62 rfl (by intro y hy; simp at hy; rcases hy with rfl | rfl | rfl <;> rfl) rfl
  have bb6 : But (fun _ => False) M0 M6 := But.fresh hw0 (((hb4.trans b5).any _).trans (bp.mono fun p h => .inr (Nat.le_trans b0.next h.2)))
  refine (concat_spec h127 h152 (ss := [(.slice M4.next 0 2 2, [T.met, ⟨3, (X.1.length : Int)⟩]), (va4, X.1), (vp4, flatP X.2)]) h62 ?_ (by simp) ?_).use ?_
  · intro s hs
    simp only [List.mem_cons, List.not_mem_nil, or_false] at hs
    rcases hs with rfl | rfl | rfl
    · exact ⟨h61, rfl, by simp⟩
    · exact ⟨hB6.arr_.rows, by rw [hB6.arr_.len', vlL_len], slO_nostr hB6.arr_⟩
    · exact ⟨hB6.prs_.rows, by rw [hB6.prs_.len', flatV_len, flatP_len], slO_nostr hB6.prs_⟩
  · simp only [catV, List.map_cons, List.map_nil, List.flatten_cons, List.flatten_nil, List.append_nil, List.length_append, List.length_cons, List.length_nil, flatP_len]
    omega
  rintro r M7 hw7 ⟨nv, rfl, b7, s7⟩
  have ht6 := hB6.tpc
  have ht7 := b7.get _ _ id ht6
  have hcat : catV [(AV.slice M4.next 0 2 2, [T.met, ⟨3, (X.1.length : Int)⟩]), (va4, X.1), (vp4, flatP X.2)] = (T.put ⟨kk, kn⟩ ⟨vk, vn⟩).slots := by
    simp only [Tb.put, Tb.slots, hX, catV, List.map_cons, List.map_nil, List.flatten_cons, List.flatten_nil, List.append_nil]
    rfl
  rw [hcat] at s7
  simp only [go_sem, ht4, ht6, ht7, ne4, ne5, ne6]
  first | exact ⟨nv, rfl, bb6.trans b7, s7.old bb6.next⟩ | trace_state
/-- dict.Put. -/
theorem dput_spec (D : PutT tbl) (h90 : tbl 90 = some cf90) (h76 : tbl 76 = some cf76) (h127 : tbl 127 = some cf127) (h152 : tbl 152 = some cf152) {M : Mem} {sv : AV} {T : Tb} {k v : Vl} (hs : CutSl M sv 2 (VlL T.slots)) (hT : TbOk T) (hl : T.slots.length ≤ 2 ^ 19)
    (hra : ∀ x ∈ T.arr, refV x = false) (hr : ∀ x ∈ T.prs, refV x.1 = false ∧ refV x.2 = false) (hkr : refV k = false ∨ (T.prs = [] ∧ nullV v = false)) (hk : keyV k = true) (hkm : mayV k = true) (hvm : mayV v = true) (hv0 : v.k ≠ 0) :
    CallW tbl 90 (.cons sv (.cons (VlA k) (.cons (VlA v) .nil))) M fun r M' => ∃ nv, r = .ret (.tuple (.cons nv (.cons .nilslice (.cons (.int 3 0) .nil)))) ∧ But (fun _ => False) M M' ∧ FreshSl M M' nv 2 (VlL (T.put k v).slots) := by
  refine CallW.wf fun hw => ?_
  obtain ⟨vk, vn⟩ := v
  obtain ⟨kk, kn⟩ := k
  refine CallW.intro h90 rfl (fr := .nod (.val (.val .leaf (VlA ⟨vk, vn⟩) .leaf) sv .leaf) (.val .leaf (VlA ⟨kk, kn⟩) .leaf)) rfl ?_
  have b1 := But.new (S := fun _ => False) hw (.cells [.int 3 kk, .int 3 kn] false)
  have w1 := hw.new (.cells [.int 3 kk, .int 3 kn] false)
  have b2 := But.new (S := fun _ => False) w1 (.cells [.int 3 vk, .int 3 vn] false)
  have w2 := w1.new (.cells [.int 3 vk, .int 3 vn] false)
  have x1 : (M.new (.cells [.int 3 kk, .int 3 kn] false)).get M.next = some (.cells [.int 3 kk, .int 3 kn] false) := by simp only [go_sem]
  have xk := b2.get _ _ id x1
  have xv : ((M.new (.cells [.int 3 kk, .int 3 kn] false)).new (.cells [.int 3 vk, .int 3 vn] false)).get M.next.succ = some (.cells [.int 3 vk, .int 3 vn] false) := by simp only [go_sem]
  have b12 := b1.trans b2
  have tail := fun (a p : AV) (fr : Tr AV) (M2 : Mem) (h : M2.wf) (b : But (fun _ => False) M M2) (sa : SlIs M2 a 2 (VlL T.arr)) (sp : SlIs M2 p 2 (VlL (flatP T.prs))) (f1 : fr.get (.o .h) = some sv) (f2 : fr.get (.o (.i .h)) = some (.ptr M.next 0)) (f3 : fr.get (.i (.i .h)) = some (.ptr M.next.succ 0)) (f4 : fr.get (.i (.i (.o .h))) = some a) (f5 : fr.get (.o (.o (.i .h))) = some p) (xk : M2.get M.next = some (.cells [.int 3 kk, .int 3 kn] false)) (xv : M2.get M.next.succ = some (.cells [.int 3 vk, .int 3 vn] false)) =>
    dput_tail D h76 h127 h152 (k := ⟨kk, kn⟩) (v := ⟨vk, vn⟩) b hw h (hs.1.old b.old) hl sa sp hra hr hkr f1 f2 f3 f4 f5 xk xv
  rw [body90]
  generalize seqTail 4 cf90.body = tl at *
  simp only [go_sem, cf90, seqHead, seqTail, VlA]
  generalize hM2 : (M.new (.cells [.int 3 kk, .int 3 kn] false)).new (.cells [.int 3 vk, .int 3 vn] false) = M2 at *
  refine (parts_spec D.toDcT (hs.quiet b12) hT).use ?_
  rintro r M3 hw3 ⟨a, p, mp, rfl, b3, sa, sp, _⟩
  have xk3 := b3.get _ _ id xk
  have xv3 := b3.get _ _ id xv
  simp only [go_sem, xk3]
  refine (may_spec D.h117 D.h143 (v := ⟨kk, kn⟩)).use ?_
  rintro r M4 hw4 ⟨rfl, b4⟩
  have xv4 := b4.get _ _ id xv3
  simp only [go_sem, hkm, xv4]
  refine (may_spec D.h117 D.h143 (v := ⟨vk, vn⟩)).use ?_
  rintro r M5 hw5 ⟨rfl, b5⟩
  have xv5 := b5.get _ _ id xv4
  have xk5 := (b4.trans b5).get _ _ id xk3
  have g : (vk == 0) = false := by simpa using hv0
  simp only [go_sem, hvm, xv5, g, xk5]
  refine (key_spec D.h125 D.h117 D.h143 ⟨kk, kn⟩).use ?_
  rintro r M6 hw6 ⟨rfl, b6⟩
  simp only [go_sem, hk]
  have bb := (b3.trans b4).trans (b5.trans b6)
  have b456 := b4.trans (b5.trans b6)
  refine tail a p _ M6 hw6 (b12.trans bb) (sa.old b456.old) (sp.old b456.old) ?_ ?_ ?_ ?_ ?_ (bb.get _ _ id xk) (bb.get _ _ id xv)
  all_goals first | rfl | simp [Tr.get_set]
end Go.Proofs.Ythpnhdopheofcaa

end
section
namespace Go.Proofs.Ythpnhdopheofcaa
open Go.Dx
variable {tbl : Nat → Option CFunc}

structure FnT (tbl : Nat → Option CFunc) : Prop where
  h25 : tbl 25 = some cf25
  h40 : tbl 40 = some cf40
  h41 : tbl 41 = some cf41
  h44 : tbl 44 = some cf44
  h45 : tbl 45 = some cf45
  h46 : tbl 46 = some cf46
  h47 : tbl 47 = some cf47
  h48 : tbl 48 = some cf48
  h49 : tbl 49 = some cf49
  h50 : tbl 50 = some cf50
  h51 : tbl 51 = some cf51
  h75 : tbl 75 = some cf75
  h76 : tbl 76 = some cf76
  h77 : tbl 77 = some cf77
  h81 : tbl 81 = some cf81
  h84 : tbl 84 = some cf84
  h85 : tbl 85 = some cf85
  h86 : tbl 86 = some cf86
  h87 : tbl 87 = some cf87
  h88 : tbl 88 = some cf88
  h89 : tbl 89 = some cf89
  h90 : tbl 90 = some cf90
  h91 : tbl 91 = some cf91
  h92 : tbl 92 = some cf92
  h93 : tbl 93 = some cf93
  h94 : tbl 94 = some cf94
  h95 : tbl 95 = some cf95
  h96 : tbl 96 = some cf96
  h97 : tbl 97 = some cf97
  h98 : tbl 98 = some cf98
  h99 : tbl 99 = some cf99
  h100 : tbl 100 = some cf100
  h103 : tbl 103 = some cf103
  h115 : tbl 115 = some cf115
  h117 : tbl 117 = some cf117
  h121 : tbl 121 = some cf121
  h122 : tbl 122 = some cf122
  h123 : tbl 123 = some cf123
  h124 : tbl 124 = some cf124
  h125 : tbl 125 = some cf125
  h126 : tbl 126 = some cf126
  h127 : tbl 127 = some cf127
  h128 : tbl 128 = some cf128
  h129 : tbl 129 = some cf129
  h130 : tbl 130 = some cf130
  h131 : tbl 131 = some cf131
  h143 : tbl 143 = some cf143
  h145 : tbl 145 = some cf145
  h146 : tbl 146 = some cf146
  h147 : tbl 147 = some cf147
  h148 : tbl 148 = some cf148
  h149 : tbl 149 = some cf149
  h150 : tbl 150 = some cf150
  h151 : tbl 151 = some cf151
  h152 : tbl 152 = some cf152
theorem FnT.tb (F : FnT tbl) : TbT tbl := ⟨F.h25, F.h40, F.h41, F.h44, F.h45, F.h46, F.h47, F.h48, F.h49, F.h50, F.h51, F.h75, F.h76, F.h77, F.h81, F.h84, F.h85, F.h86, F.h87, F.h88, F.h91, F.h96, F.h99, F.h100, F.h103, F.h115, F.h117, F.h121, F.h122, F.h123, F.h124, F.h130, F.h131, F.h143, F.h145⟩
theorem FnT.dc (F : FnT tbl) : DcT tbl := ⟨F.h117, F.h121, F.h124, F.h125, F.h128, F.h129, F.h143, F.h145, F.h146⟩
theorem FnT.pt (F : FnT tbl) : PutT tbl := ⟨F.dc, F.h77, F.h123, F.h126, F.h147, F.h148, F.h149, F.h150, F.h151⟩

/-- A heap that has a table. -/
structure HasT (G : Hp) (tn : Int) (T : Tb) : Prop where
  may : mayV ⟨6, tn⟩ = true
  obj : ∃ o, G.objs tn = some o ∧ o.kind = 6 ∧ o.slots = T.slots
  ok : TbOk T

section
variable {M : Mem} {hp : Pos} {P : Pos → Prop} {G : Hp} {tn : Int} {T : Tb}

theorem slots_ok (F : FnT tbl) (hH : HeapIs M hp P G) (hT : HasT G tn T) :
    CallW tbl 100 (.cons (.ptr hp 0) (.cons (VlA ⟨6, tn⟩) .nil)) M fun r M' => ∃ sv, r = .ret (.tuple (.cons sv (.cons (.bool true) .nil))) ∧ CutSl M' sv 2 (VlL T.slots) ∧ But (fun _ => False) M M' := by
  refine CallW.wf fun hw => ?_
  refine CallW.intro F.h100 rfl (fr := .nod (.val .leaf (.ptr hp 0) .leaf) (.val .leaf (VlA ⟨6, tn⟩) .leaf)) rfl ?_
  have b1 := But.new (S := fun _ => False) hw (.cells [.int 3 6, .int 3 tn] false)
  have w1 := hw.new (.cells [.int 3 6, .int 3 tn] false)
  have x1 : (M.new (.cells [.int 3 6, .int 3 tn] false)).get M.next = some (.cells [.int 3 6, .int 3 tn] false) := by simp only [go_sem]
  have g1 : ((6 : Int) != 6) = false := rfl
  simp only [go_sem, cf100, VlA, g1]
  refine (ref_spec F.h77 F.h117 F.h143 (v := ⟨6, tn⟩)).use ?_
  rintro r M2 hw2 ⟨rfl, b2⟩
  have hr : refV ⟨6, tn⟩ = true := by simp [refV, hT.may]
  have x2 := b2.get _ _ id x1
  rw [hr]
  simp only [go_sem, x2]
  have hH2 := hH.quiet (b1.trans b2)
  obtain ⟨o, ho, hk, hs⟩ := hT.obj
  have hl := hT.ok.len
  refine (obj_some F.h25 F.h75 F.h76 hH2 ho (by rw [hs]; simp only [most]; omega)).use ?_
  rintro r M3 hw3 ⟨sv, rfl, hfr, b3⟩
  have hcs := hfr.cell
  obtain ⟨own', _, hso⟩ := hfr (fun _ => none) (0, 0) (fun p h => absurd rfl h)
  have hcut := hso.cutSl
  rw [hs] at hcut
  have g3 : (o.kind != 6) = false := by simp [hk]
  have b4 := But.fill hw3 (.cells [.int 3 0, .int 3 0, .nilslice, .str 0 0, .int 3 0] false) (.cells [.int 3 o.kind, .int 3 o.count, sv, .str o.tl o.tn, .int 3 o.mark] false)
  have w4 := hw3.fill (.cells [.int 3 0, .int 3 0, .nilslice, .str 0 0, .int 3 0] false) (.cells [.int 3 o.kind, .int 3 o.count, sv, .str o.tl o.tn, .int 3 o.mark] false)
  have x4 : ((M3.new (.cells [.int 3 0, .int 3 0, .nilslice, .str 0 0, .int 3 0] false)).put M3.next (.cells [.int 3 o.kind, .int 3 o.count, sv, .str o.tl o.tn, .int 3 o.mark] false)).get M3.next = some (.cells [.int 3 o.kind, .int 3 o.count, sv, .str o.tl o.tn, .int 3 o.mark] false) := by simp [Mem.put]
  have hcut4 := hcut.quiet b4
  simp only [go_sem, ObA, hcs, g3]
  generalize hM4 : (M3.new (.cells [.int 3 0, .int 3 0, .nilslice, .str 0 0, .int 3 0] false)).put M3.next (.cells [.int 3 o.kind, .int 3 o.count, sv, .str o.tl o.tn, .int 3 o.mark] false) = M4 at *
  refine (check_ok F.dc F.h131 hcut4 hT.ok).use ?_
  rintro r M5 hw5 ⟨rfl, b5⟩
  have x5 := b5.get _ _ id x4
  simp only [go_sem, x5]
  exact ⟨sv, rfl, hcut4.quiet b5, ((b1.trans b2).trans b3).trans (b4.trans b5)⟩

theorem told91_ok (F : FnT tbl) {g : Nat} {caps : AV} {rv : Vl} {e : Int} (hH : HeapIs M hp P G) (hT : HasT G tn T)
    (hcall : ∀ sv M1, M1.wf → But (fun _ => False) M M1 → CutSl M1 sv 2 (VlL T.slots) → CallW tbl g (.cons sv caps) M1 fun r M2 => r = .ret (.tuple (.cons (VlA rv) (.cons (.int 3 e) .nil))) ∧ But (fun _ => False) M1 M2) :
    CallW tbl 91 (.cons (.ptr hp 0) (.cons (VlA ⟨6, tn⟩) (.cons (.func (.func g) .nil caps) .nil))) M fun r M' => r = .ret (.tuple (.cons (VlA rv) (.cons (.int 3 e) .nil))) ∧ But (fun _ => False) M M' := by
  refine CallW.wf fun hw => ?_
  refine CallW.intro F.h91 rfl (fr := .nod (.val (.val .leaf (.func (.func g) .nil caps) .leaf) (.ptr hp 0) .leaf) (.val .leaf (VlA ⟨6, tn⟩) .leaf)) rfl ?_
  have b1 := But.new (S := fun _ => False) hw (.cells [.int 3 6, .int 3 tn] false)
  have w1 := hw.new (.cells [.int 3 6, .int 3 tn] false)
  have b2 := But.new (S := fun _ => False) w1 (.cells [.int 3 0, .int 3 0] false)
  have x2 : ((M.new (.cells [.int 3 6, .int 3 tn] false)).new (.cells [.int 3 0, .int 3 0] false)).get M.next.succ = some (.cells [.int 3 0, .int 3 0] false) := by simp only [go_sem]
  simp only [go_sem, cf91, VlA]
  refine (slots_ok F (hH.quiet (b1.trans b2)) hT).use ?_
  rintro r M2 hw2 ⟨sv, rfl, hcut, b3⟩
  have x3 := b3.get _ _ id x2
  simp only [go_sem]
  refine (hcall sv M2 hw2 ((b1.trans b2).trans b3) hcut).use ?_
  rintro r M3 hw3 ⟨rfl, b4⟩
  have x4 := b4.get _ _ id x3
  obtain ⟨rk, rn⟩ := rv
  simp only [go_sem, x4, VlA]
  have bb := (((b1.trans b2).trans b3).trans b4)
  have bf := But.fresh (S := fun _ => False) hw ((bb.any _).trans (But.put (S := fun p => False ∨ M.next.num ≤ p.num) (p := M.next.succ) _ (.inr (by rw [Pos.num_succ]; omega)) (.cells [.int 3 rk, .int 3 rn] false)))
  first | exact bf | exact ⟨rfl, bf⟩
end
end Go.Proofs.Ythpnhdopheofcaa

end
section
namespace Go.Proofs.Ythpnhdopheofcaa
open Go.Dx
variable {tbl : Nat → Option CFunc}

section
variable {M : Mem} {hp : Pos} {P : Pos → Prop} {G : Hp} {tn : Int} {T : Tb}

theorem get_ok (F : FnT tbl) (k : Vl) (hH : HeapIs M hp P G) (hT : HasT G tn T) :
    CallW tbl 45 (.cons (.ptr hp 0) (.cons (VlA ⟨6, tn⟩) (.cons (VlA k) .nil))) M fun r M' => r = .ret (.tuple (.cons (VlA (T.get k)) (.cons (.int 3 0) .nil))) ∧ But (fun _ => False) M M' := by
  refine CallW.wf fun hw => ?_
  obtain ⟨kk, kn⟩ := k
  refine CallW.intro F.h45 rfl (fr := .nod (.val (.val .leaf (VlA ⟨kk, kn⟩) .leaf) (.ptr hp 0) .leaf) (.val .leaf (VlA ⟨6, tn⟩) .leaf)) rfl ?_
  have b1 := But.new (S := fun _ => False) hw (.cells [.int 3 6, .int 3 tn] false)
  have w1 := hw.new (.cells [.int 3 6, .int 3 tn] false)
  have b2 := But.new (S := fun _ => False) w1 (.cells [.int 3 kk, .int 3 kn] false)
  have w2 := w1.new (.cells [.int 3 kk, .int 3 kn] false)
  have b3 := But.new (S := fun _ => False) w2 (.cells [.int 3 0, .int 3 0] false)
  have x2 : (((M.new (.cells [.int 3 6, .int 3 tn] false)).new (.cells [.int 3 kk, .int 3 kn] false))).get M.next.succ = some (.cells [.int 3 kk, .int 3 kn] false) := by simp only [go_sem]
  have y3 := b3.get _ _ id x2
  have x3 : (((M.new (.cells [.int 3 6, .int 3 tn] false)).new (.cells [.int 3 kk, .int 3 kn] false)).new (.cells [.int 3 0, .int 3 0] false)).get M.next.succ.succ = some (.cells [.int 3 0, .int 3 0] false) := by simp only [go_sem]
  simp only [go_sem, cf45, VlA]
  refine (told91_ok F (rv := T.get ⟨kk, kn⟩) (e := 0) (hH.quiet ((b1.trans b2).trans b3)) hT ?_).use ?_
  · intro sv M1 h1 b4 hcut
    refine CallW.intro F.h92 rfl (fr := .nod (.val .leaf sv .leaf) (.val .leaf (.ptr M.next.succ 0) .leaf)) rfl ?_
    have b5 := But.new (S := fun _ => False) h1 (.cells [.int 3 0, .int 3 0] false)
    have x5 : (M1.new (.cells [.int 3 0, .int 3 0] false)).get M1.next = some (.cells [.int 3 0, .int 3 0] false) := by simp only [go_sem]
    have y5 := b4.get _ _ id y3
    have ne5 := h1.ne y5
    simp only [go_sem, cf92, y5, ne5]
    refine (dget_ok F.dc F.h93 (k := ⟨kk, kn⟩) (hcut.quiet b5) hT.ok).use ?_
    rintro r M6 hw6 ⟨rfl, b6⟩
    have x6 := b6.get _ _ id x5
    generalize T.get ⟨kk, kn⟩ = rv
    obtain ⟨rk, rn⟩ := rv
    simp only [go_sem, x6, VlA]
    have bf := But.fresh (S := fun _ => False) h1 (((b5.trans b6).any _).trans (But.put (S := fun p => False ∨ M1.next.num ≤ p.num) (p := M1.next) _ (.inr (Nat.le_refl _)) (.cells [.int 3 rk, .int 3 rn] false)))
    first | exact bf | exact ⟨rfl, bf⟩
  rintro r M4 hw4 ⟨rfl, b4⟩
  have x4 := b4.get _ _ id x3
  generalize T.get ⟨kk, kn⟩ = rv
  obtain ⟨rk, rn⟩ := rv
  simp only [go_sem, VlA, x4]
  have bb := (((b1.trans b2).trans b3).trans b4)
  have bf := But.fresh (S := fun _ => False) hw ((bb.any _).trans (But.put (S := fun p => False ∨ M.next.num ≤ p.num) (p := M.next.succ.succ) _ (.inr (by rw [Pos.num_succ, Pos.num_succ]; omega)) (.cells [.int 3 rk, .int 3 rn] false)))
  first | exact bf | exact ⟨rfl, bf⟩

theorem next_ok (F : FnT tbl) {k : Vl} {a b : Nat} (hH : HeapIs M hp P G) (hT : HasT G tn T) (hk : mayV k = true) (hk0 : k.k ≠ 0) (hst : T.start k = some (a, b)) :
    CallW tbl 46 (.cons (.ptr hp 0) (.cons (VlA ⟨6, tn⟩) (.cons (VlA k) .nil))) M fun r M' => r = .ret (.tuple (.cons (VlA (T.nextV a b)) (.cons (.int 3 0) .nil))) ∧ But (fun _ => False) M M' := by
  refine CallW.wf fun hw => ?_
  obtain ⟨kk, kn⟩ := k
  refine CallW.intro F.h46 rfl (fr := .nod (.val (.val .leaf (VlA ⟨kk, kn⟩) .leaf) (.ptr hp 0) .leaf) (.val .leaf (VlA ⟨6, tn⟩) .leaf)) rfl ?_
  have b1 := But.new (S := fun _ => False) hw (.cells [.int 3 6, .int 3 tn] false)
  have w1 := hw.new (.cells [.int 3 6, .int 3 tn] false)
  have b2 := But.new (S := fun _ => False) w1 (.cells [.int 3 kk, .int 3 kn] false)
  have w2 := w1.new (.cells [.int 3 kk, .int 3 kn] false)
  have b3 := But.new (S := fun _ => False) w2 (.cells [.int 3 0, .int 3 0] false)
  have x2 : (((M.new (.cells [.int 3 6, .int 3 tn] false)).new (.cells [.int 3 kk, .int 3 kn] false))).get M.next.succ = some (.cells [.int 3 kk, .int 3 kn] false) := by simp only [go_sem]
  have y3 := b3.get _ _ id x2
  have x3 : (((M.new (.cells [.int 3 6, .int 3 tn] false)).new (.cells [.int 3 kk, .int 3 kn] false)).new (.cells [.int 3 0, .int 3 0] false)).get M.next.succ.succ = some (.cells [.int 3 0, .int 3 0] false) := by simp only [go_sem]
  simp only [go_sem, cf46, VlA]
  refine (told91_ok F (rv := T.nextV a b) (e := 0) (hH.quiet ((b1.trans b2).trans b3)) hT ?_).use ?_
  · intro sv M1 h1 b4 hcut
    refine CallW.intro F.h94 rfl (fr := .nod (.val .leaf sv .leaf) (.val .leaf (.ptr M.next.succ 0) .leaf)) rfl ?_
    have b5 := But.new (S := fun _ => False) h1 (.cells [.int 3 0, .int 3 0] false)
    have x5 : (M1.new (.cells [.int 3 0, .int 3 0] false)).get M1.next = some (.cells [.int 3 0, .int 3 0] false) := by simp only [go_sem]
    have y5 := b4.get _ _ id y3
    have ne5 := h1.ne y5
    simp only [go_sem, cf94, y5, ne5]
    refine (dnext_ok F.dc F.h95 F.h123 (k := ⟨kk, kn⟩) (hcut.quiet b5) hT.ok hk hk0 hst).use ?_
    rintro r M6 hw6 ⟨rfl, b6⟩
    have x6 := b6.get _ _ id x5
    generalize T.nextV a b = rv
    obtain ⟨rk, rn⟩ := rv
    simp only [go_sem, x6, VlA]
    have bf := But.fresh (S := fun _ => False) h1 (((b5.trans b6).any _).trans (But.put (S := fun p => False ∨ M1.next.num ≤ p.num) (p := M1.next) _ (.inr (Nat.le_refl _)) (.cells [.int 3 rk, .int 3 rn] false)))
    first | exact bf | exact ⟨rfl, bf⟩
  rintro r M4 hw4 ⟨rfl, b4⟩
  have x4 := b4.get _ _ id x3
  generalize T.nextV a b = rv
  obtain ⟨rk, rn⟩ := rv
  simp only [go_sem, VlA, x4]
  have bb := (((b1.trans b2).trans b3).trans b4)
  have bf := But.fresh (S := fun _ => False) hw ((bb.any _).trans (But.put (S := fun p => False ∨ M.next.num ≤ p.num) (p := M.next.succ.succ) _ (.inr (by rw [Pos.num_succ, Pos.num_succ]; omega)) (.cells [.int 3 rk, .int 3 rn] false)))
  first | exact bf | exact ⟨rfl, bf⟩

theorem len_ok (F : FnT tbl) (hH : HeapIs M hp P G) (hT : HasT G tn T) :
    CallW tbl 47 (.cons (.ptr hp 0) (.cons (VlA ⟨6, tn⟩) .nil)) M fun r M' => r = .ret (.tuple (.cons (.int 3 T.arr.length) (.cons (.int 3 0) .nil))) ∧ But (fun _ => False) M M' := by
  refine CallW.wf fun hw => ?_
  refine CallW.intro F.h47 rfl (fr := .nod (.val .leaf (.ptr hp 0) .leaf) (.val .leaf (VlA ⟨6, tn⟩) .leaf)) rfl ?_
  have b1 := But.new (S := fun _ => False) hw (.cells [.int 3 6, .int 3 tn] false)
  have w1 := hw.new (.cells [.int 3 6, .int 3 tn] false)
  simp only [go_sem, cf47, VlA]
  have told : CallW tbl 96 (.cons (.ptr hp 0) (.cons (VlA ⟨6, tn⟩) (.cons (.func (.func 97) .nil .nil) .nil))) (M.new (.cells [.int 3 6, .int 3 tn] false)) fun r M' => r = .ret (.tuple (.cons (.int 3 T.arr.length) (.cons (.int 3 0) .nil))) ∧ But (fun _ => False) (M.new (.cells [.int 3 6, .int 3 tn] false)) M' := by
    have hH1 := hH.quiet b1
    generalize M.new (.cells [.int 3 6, .int 3 tn] false) = M1 at *
    refine CallW.intro F.h96 rfl (fr := .nod (.val (.val .leaf (.func (.func 97) .nil .nil) .leaf) (.ptr hp 0) .leaf) (.val .leaf (VlA ⟨6, tn⟩) .leaf)) rfl ?_
    have b2 := But.new (S := fun _ => False) w1 (.cells [.int 3 6, .int 3 tn] false)
    simp only [go_sem, cf96, VlA]
    refine (slots_ok F (hH1.quiet b2) hT).use ?_
    rintro r M2 hw2 ⟨sv, rfl, hcut, b3⟩
    simp only [go_sem]
    have hc : CallW tbl 97 (.cons sv .nil) M2 fun r M3 => r = .ret (.tuple (.cons (.int 3 T.arr.length) (.cons (.int 3 0) .nil))) ∧ But (fun _ => False) M2 M3 := by
      refine CallW.intro F.h97 rfl (fr := .nod (.val .leaf sv .leaf) .leaf) rfl ?_
      simp only [go_sem, cf97]
      refine (dlen_ok F.dc F.h98 hcut hT.ok).use ?_
      rintro r M4 hw4 ⟨rfl, b4⟩
      simp only [go_sem]
      first | exact b4 | exact ⟨rfl, b4⟩
    refine hc.use ?_
    rintro r M3 hw3 ⟨rfl, b4⟩
    simp only [go_sem]
    first | exact (b2.trans b3).trans b4 | exact ⟨rfl, (b2.trans b3).trans b4⟩
  refine told.use ?_
  rintro r M3 hw3 ⟨rfl, b4⟩
  simp only [go_sem]
  first | exact b1.trans b4 | exact ⟨rfl, b1.trans b4⟩
end

/-- A heap after a table's slots are laid. -/
def layG (G : Hp) (tn : Int) (l : List Vl) : Hp := { G with objs := upd G.objs tn ((G.objs tn).map fun o => { o with slots := l }) }

section
variable {M : Mem} {hp : Pos} {P : Pos → Prop} {G : Hp} {tn : Int} {T : Tb}

theorem tput_ok (F : FnT tbl) (k v : Vl) (hH : HeapIs M hp P G) (hT : HasT G tn T) (hl : T.slots.length ≤ 2 ^ 19) (hra : ∀ x ∈ T.arr, refV x = false) (hr : ∀ x ∈ T.prs, refV x.1 = false ∧ refV x.2 = false) (hkr : refV k = false ∨ (T.prs = [] ∧ nullV v = false)) (hk : keyV k = true) (hkm : mayV k = true) (hvm : mayV v = true) (hv0 : v.k ≠ 0)
    (hth : ∀ x ∈ (T.put k v).slots, thereV G x = true) :
    CallW tbl 44 (.cons (.ptr hp 0) (.cons (VlA ⟨6, tn⟩) (.cons (VlA k) (.cons (VlA v) .nil)))) M fun r M' => r = .ret (.int 3 0) ∧ HeapIs M' hp P (layG G tn (T.put k v).slots) ∧ But (fun p => ¬ P p) M M' := by
  refine CallW.wf fun hw => ?_
  obtain ⟨kk, kn⟩ := k
  obtain ⟨vk, vn⟩ := v
  refine CallW.intro F.h44 rfl (fr := .nod (.val (.val .leaf (VlA ⟨kk, kn⟩) .leaf) (.ptr hp 0) .leaf) (.val (.val .leaf (VlA ⟨vk, vn⟩) .leaf) (VlA ⟨6, tn⟩) .leaf)) rfl ?_
  have b1 := But.new (S := fun _ => False) hw (.cells [.ptr hp 0] false)
  have w1 := hw.new (.cells [.ptr hp 0] false)
  have b2 := But.new (S := fun _ => False) w1 (.cells [.int 3 6, .int 3 tn] false)
  have w2 := w1.new (.cells [.int 3 6, .int 3 tn] false)
  have b3 := But.new (S := fun _ => False) w2 (.cells [.int 3 kk, .int 3 kn] false)
  have w3 := w2.new (.cells [.int 3 kk, .int 3 kn] false)
  have b4 := But.new (S := fun _ => False) w3 (.cells [.int 3 vk, .int 3 vn] false)
  have w4 := w3.new (.cells [.int 3 vk, .int 3 vn] false)
  have xh0 : (M.new (.cells [.ptr hp 0] false)).get M.next = some (.cells [.ptr hp 0] false) := by simp only [go_sem]
  have xt0 : ((M.new (.cells [.ptr hp 0] false)).new (.cells [.int 3 6, .int 3 tn] false)).get M.next.succ = some (.cells [.int 3 6, .int 3 tn] false) := by simp only [go_sem]
  have xk0 : (((M.new (.cells [.ptr hp 0] false)).new (.cells [.int 3 6, .int 3 tn] false)).new (.cells [.int 3 kk, .int 3 kn] false)).get M.next.succ.succ = some (.cells [.int 3 kk, .int 3 kn] false) := by simp only [go_sem]
  have xv : ((((M.new (.cells [.ptr hp 0] false)).new (.cells [.int 3 6, .int 3 tn] false)).new (.cells [.int 3 kk, .int 3 kn] false)).new (.cells [.int 3 vk, .int 3 vn] false)).get M.next.succ.succ.succ = some (.cells [.int 3 vk, .int 3 vn] false) := by simp only [go_sem]
  have xh := ((b2.trans b3).trans b4).get _ _ id xh0
  have xt := (b3.trans b4).get _ _ id xt0
  have xk := b4.get _ _ id xk0
  have b14 := (b1.trans b2).trans (b3.trans b4)
  have hH4 := hH.quiet b14
  simp only [go_sem, cf44, VlA]
  generalize hM4 : (((M.new (.cells [.ptr hp 0] false)).new (.cells [.int 3 6, .int 3 tn] false)).new (.cells [.int 3 kk, .int 3 kn] false)).new (.cells [.int 3 vk, .int 3 vn] false) = M4 at *
  obtain ⟨o, ho, hok, hos⟩ := hT.obj
  have hlG : layG G tn (T.put ⟨kk, kn⟩ ⟨vk, vn⟩).slots = { G with objs := upd G.objs tn (some { o with slots := (T.put ⟨kk, kn⟩ ⟨vk, vn⟩).slots }) } := by simp only [layG, ho, Option.map_some]
  have told : CallW tbl 88 (.cons (.ptr hp 0) (.cons (VlA ⟨6, tn⟩) (.cons (.func (.func 89) .nil (.cons (.ptr M.next.succ.succ 0) (.cons (.ptr M.next.succ.succ.succ 0) (.cons (.ptr M.next 0) (.cons (.ptr M.next.succ 0) .nil))))) .nil))) M4 fun r M' => r = .ret (.tuple (.cons .nilslice (.cons (.int 3 0) .nil))) ∧ HeapIs M' hp P (layG G tn (T.put ⟨kk, kn⟩ ⟨vk, vn⟩).slots) ∧ But (fun p => ¬ P p) M4 M' := by
    refine CallW.intro F.h88 rfl (fr := .nod (.val (.val .leaf (.func (.func 89) .nil (.cons (.ptr M.next.succ.succ 0) (.cons (.ptr M.next.succ.succ.succ 0) (.cons (.ptr M.next 0) (.cons (.ptr M.next.succ 0) .nil))))) .leaf) (.ptr hp 0) .leaf) (.val .leaf (VlA ⟨6, tn⟩) .leaf)) rfl ?_
    have b5 := But.new (S := fun _ => False) w4 (.cells [.int 3 6, .int 3 tn] false)
    simp only [go_sem, cf88, VlA]
    refine (slots_ok F (hH4.quiet b5) hT).use ?_
    rintro r M6 hw6 ⟨sv, rfl, hcut, b6⟩
    have b56 := b5.trans b6
    simp only [go_sem]
    have hc : CallW tbl 89 (.cons sv (.cons (.ptr M.next.succ.succ 0) (.cons (.ptr M.next.succ.succ.succ 0) (.cons (.ptr M.next 0) (.cons (.ptr M.next.succ 0) .nil))))) M6 fun r M' => r = .ret (.tuple (.cons .nilslice (.cons (.int 3 0) .nil))) ∧ HeapIs M' hp P (layG G tn (T.put ⟨kk, kn⟩ ⟨vk, vn⟩).slots) ∧ But (fun p => ¬ P p) M6 M' := by
      refine CallW.intro F.h89 rfl (fr := .nod (.val (.val .leaf (.ptr M.next.succ.succ.succ 0) .leaf) sv (.val .leaf (.ptr M.next.succ 0) .leaf)) (.val (.val .leaf (.ptr M.next 0) .leaf) (.ptr M.next.succ.succ 0) .leaf)) rfl ?_
      have xk6 := b56.get _ _ id xk
      have xv6 := b56.get _ _ id xv
      simp only [go_sem, cf89, xk6, xv6]
      refine (dput_spec F.pt F.h90 F.h76 F.h127 F.h152 (k := ⟨kk, kn⟩) (v := ⟨vk, vn⟩) hcut hT.ok hl hra hr hkr hk hkm hvm hv0).use ?_
      rintro r M7 hw7 ⟨nv, rfl, b7, hf⟩
      have b567 := b56.trans b7
      have xh7 := b567.get _ _ id xh
      have xt7 := b567.get _ _ id xt
      have g0 : ((0 : Int) == 0) = true := rfl
      simp only [go_sem, xh7, xt7, g0]
      have hlen : (T.put ⟨kk, kn⟩ ⟨vk, vn⟩).slots.length ≤ most := by
        have h1 := putT_len T.arr T.prs ⟨kk, kn⟩ ⟨vk, vn⟩
        have hn : T.slots.length = T.arr.length + 2 * T.prs.length + 2 := by simp only [Tb.slots, List.length_cons, List.length_append, flatP_len]
        have hn' : (T.put ⟨kk, kn⟩ ⟨vk, vn⟩).slots.length = (putT T.arr T.prs ⟨kk, kn⟩ ⟨vk, vn⟩).1.length + 2 * (putT T.arr T.prs ⟨kk, kn⟩ ⟨vk, vn⟩).2.length + 2 := by simp only [Tb.put, Tb.slots, List.length_cons, List.length_append, flatP_len]
        simp only [most]; omega
      refine (lay_ok F.h75 F.h76 F.h77 F.h81 F.h85 F.h86 F.h115 F.h117 F.h121 F.h122 F.h143 F.h145 (hH4.quiet b567) ho (by rw [hok]; decide) hf.rows hlen hth).use ?_
      rintro r M8 hw8 ⟨rfl, hH8, b8⟩
      simp only [go_sem]
      rw [hlG]
      first | exact ⟨hH8, (b7.any _).trans b8⟩ | exact ⟨rfl, hH8, (b7.any _).trans b8⟩
    refine hc.use ?_
    rintro r M8 hw8 ⟨rfl, hH8, b8⟩
    simp only [go_sem]
    first | exact ⟨hH8, (b56.any _).trans b8⟩ | exact ⟨rfl, hH8, (b56.any _).trans b8⟩
  refine told.use ?_
  rintro r M5 hw5 ⟨rfl, hH5, b5⟩
  simp only [go_sem]
  refine loop_wp (I := fun n fr M' => M' = M5 ∧ fr.get (.i (.i (.o (.i .h)))) = some (.int 3 0) ∧ fr.get (.o (.i (.o (.i .h)))) = some (.int 3 0)) (n := 0) ?_ ?_
  · exact ⟨rfl, rfl, rfl⟩
  · rintro n fr M' ⟨rfl, f1, f2⟩
    have g : decide ((0 : Int) < 0) = false := rfl
    simp only [go_sem, f1, f2, g]
    first | exact ⟨hH5, (b14.any _).trans b5⟩ | exact ⟨rfl, hH5, (b14.any _).trans b5⟩
end
end Go.Proofs.Ythpnhdopheofcaa

end
