import Derived.Test.YthpnhdopheofcaaDxWk
import Derived.Test.YthpnhdopheofcaaTf
import Derived.Test.YthpnhdopheofcaaTt
set_option linter.unusedSimpArgs false
set_option linter.unusedVariables false
section
namespace Go.Proofs.Ythpnhdopheofcaa
open Go.Dx
variable {tbl : Nat → Option CFunc}
theorem OwnUp.trans_ {t : Tag} {M M1 M2 : Mem} {a b c : Own} (h1 : OwnUp t M M1 a b) (h2 : OwnUp t M1 M2 b c) (n1 : M.next.num ≤ M1.next.num) (n2 : M1.next.num ≤ M2.next.num) : OwnUp t M M2 a c := fun p => by
 rcases h2 p with e | ⟨e1, e2, e3, e4⟩
 ·rw [e]
  rcases h1 p with e' | ⟨e1, e2, e3, e4⟩
  ·exact .inl e'
  ·exact .inr ⟨e1, e2, e3, by omega⟩
 ·rcases h1 p with e' | ⟨k1, k2, k3, k4⟩
  ·exact .inr ⟨by rw [← e', e1], e2, by omega, e4⟩
  ·rw [e1] at k2; cases k2
theorem FreshSl.app {M M1 : Mem} {v u : AV} {size : Nat} {L X : List (List AV)} (h : FreshSl M M1 v size L) (hb : But (fun _ => False) M M1) (hw : M.wf) (hw1 : M1.wf) (hu : SlIs M1 u size X) (hn : lenOf u = some X.length) (hst : ∀ l n, u ≠ .str l n) (hc : ∀ x ∈ X, x.all isCell = true) (hs : 0 < size) (hm : L.length + X.length ≤ most) :
  ∃ v' M2, appO M1 size v u = some (v', M2) ∧ FreshSl M M2 v' size (L ++ X) ∧ But (fun _ => False) M M2 ∧ M2.wf := by
 have hsrc := hu.src hn hst
 have hx : ∀ x ∈ X, x.length = size ∧ x.all isCell = true := fun x h => ⟨hu.2.1 x h, hc x h⟩
 have key : ∀ (own : Own) (t : Tag), own.in M → ∃ own', OwnUp t M M1 own own' ∧ ∃ v' M' own'', appendM M1 size X.length X.flatten v = some (v', M') ∧ SlO M' own'' t v' size (L ++ X) ∧ OwnUp t M1 M' own' own'' ∧ But (fun p => own' p = some t) M1 M' ∧ M'.wf := fun own t hi => by
  obtain ⟨own', u1, s1⟩ := h own t hi
  exact ⟨own', u1, s1.append_ hw1 (u1.in_ hi hb.next) hx hs hm⟩
 obtain ⟨own', u1, v', M', own'', h1, h2, h3, h4, h5⟩ := key (fun _ => none) (0, 0) (fun p h => absurd rfl h)
 have hb4 : But (fun p => M.next.num ≤ p.num) M1 M' := h4.mono fun p hp => by
  rcases u1 p with e | ⟨_, _, e, _⟩
  ·rw [e] at hp; cases hp
  ·exact e
 refine ⟨v', M', ?_, fun own t hi => ?_, But.fresh hw ((hb.any _).trans (hb4.mono fun p e => .inr e)), h5⟩
 ·simp only [appO, hn, Option.bind_some, hsrc]; exact h1
 ·obtain ⟨o1, u2, w, M'', o2, g1, g2, g3, g4, g5⟩ := key own t hi
  rw [h1] at g1
  cases g1
  exact ⟨o2, OwnUp.trans_ u2 g3 hb.next g4.next, g2⟩
theorem FreshSl.nil_ (M M' : Mem) (size : Nat) : FreshSl M M' .nilslice size [] := fun own t _ => ⟨own, OwnUp.refl _ _ _ _, SlO.nil _ _ _ _⟩
theorem grow0_spec (h : tbl 152 = some cf152) {M : Mem} {n : Nat} (hn : n ≤ 2 ^ 22) :
  CallW tbl 152 (.cons .nilslice (.cons (.int 3 (n : Int)) .nil)) M fun r M' => ∃ v, r = .ret v ∧ But (fun _ => False) M M' ∧ FreshSl M M' v 2 [] := by
 refine CallW.wf fun hw => ?_
 refine CallW.intro h rfl (fr := .nod (.val .leaf .nilslice .leaf) (.val .leaf (.int 3 (n : Int)) .leaf)) rfl ?_
 have g1 : decide ((n : Int) < 0) = false := by simp only [decide_eq_false_iff_not]; omega
 have e0 : IntKind.i64.wrap (0 - 0) = 0 := rfl
 have e1 : IntKind.i64.wrap ((n : Int) - 0) = (n : Int) := by rw [wrap64 (by omega) (by omega)]; omega
 by_cases h0 : 0 < n
 ·have g2 : decide ((0 : Int) < (n : Int)) = true := by simp only [decide_eq_true_eq]; omega
  have q0 : sliceM M 2 none (some 0) none .nilslice = some .nilslice := rfl
  have n0 : natO (AV.int 3 (n : Int)) = some n := by simp [natO]
  simp only [go_sem, cf152, g1, e0, e1, g2, q0, n0]
  have hrl := repl_len (AV.cons (.int 3 0) (.cons (.int 3 0) .nil)) rfl n
  refine ⟨⟨by simp only [most]; omega, rfl⟩, ?_⟩
  have hrz : ∀ n, (repl (AV.cons (.int 3 0) (.cons (.int 3 0) .nil)) n).toL = (List.replicate n [AV.int 3 0, AV.int 3 0]).flatten := by
   intro n
   induction n with
   | zero => rfl
   | succ n ih =>
    rw [List.replicate_succ, List.flatten_cons, ← ih]
    rfl
  have hx : ∀ x ∈ List.replicate n [AV.int 3 0, AV.int 3 0], x.length = 2 ∧ x.all isCell = true := fun x hx => by rw [(List.mem_replicate.1 hx).2]; exact ⟨rfl, rfl⟩
  have app := fun (own : Own) (t : Tag) (hi : own.in M) => (SlO.nil M own t 2).append_ hw hi hx (by omega) (by simp only [most, List.length_nil, List.length_replicate]; omega)
  obtain ⟨v', M', own', h1, h2, h3, h4, h5⟩ := app (fun _ => none) (0, 0) (fun p h => absurd rfl h)
  obtain ⟨v2, k1, k2⟩ := h2.take_ (by omega) (k := 0) (Nat.zero_le _)
  rw [List.length_replicate] at h1
  simp only [go_sem]
  refine ⟨hrl.2, ?_⟩
  rw [hrz]
  simp only [go_sem, h1, k1]
  have n1 : natO (AV.int 3 0) = some 0 := rfl
  refine ⟨_, rfl, (h4.mono fun p h => by cases h), fun own t hi => ?_⟩
  obtain ⟨w, M2, o2, g1, g2, g3, g4, g5⟩ := app own t hi
  rw [List.length_replicate, h1] at g1
  cases g1
  obtain ⟨w2, r1, r2⟩ := g2.take_ (by omega) (k := 0) (Nat.zero_le _)
  rw [k1] at r1
  cases r1
  exact ⟨o2, g3, r2⟩
 ·have g2 : decide ((0 : Int) < (n : Int)) = false := by simp only [decide_eq_false_iff_not]; omega
  simp only [go_sem, cf152, g1, e0, e1, g2]
  exact ⟨_, rfl, But.refl _ _, FreshSl.nil_ _ _ _⟩
def catV (ss : List (AV × List Vl)) : List Vl := (ss.map (·.2)).flatten
theorem catV_take (ss : List (AV × List Vl)) {i : Nat} (hi : i < ss.length) : catV (ss.take (i + 1)) = catV (ss.take i) ++ (ss[i]).2 := by
 rw [catV, List.take_succ_eq_append_getElem hi, List.map_append, List.flatten_append]
 simp only [List.map_cons, List.map_nil, List.flatten_cons, List.flatten_nil, List.append_nil]
 rfl
theorem catV_le (ss : List (AV × List Vl)) (i : Nat) : (catV (ss.take i)).length ≤ (catV ss).length := by
 conv => rhs; rw [← List.take_append_drop i ss]
 simp only [catV, List.map_append, List.flatten_append, List.length_append]
 omega
theorem concat_spec (h : tbl 127 = some cf127) (h152 : tbl 152 = some cf152) {M : Mem} {sv : AV} {ss : List (AV × List Vl)} (hs : SlIs M sv 1 (ss.map fun s => [s.1])) (hss : ∀ s ∈ ss, SlIs M s.1 2 (VlL s.2) ∧ lenOf s.1 = some s.2.length ∧ ∀ l n, s.1 ≠ .str l n) (hl : ss.length ≤ 2 ^ 20) (hm : (catV ss).length ≤ 2 ^ 22) :
  CallW tbl 127 (.cons sv .nil) M fun r M' => ∃ v, r = .ret v ∧ But (fun _ => False) M M' ∧ FreshSl M M' v 2 (VlL (catV ss)) := by
 refine CallW.wf fun hw => ?_
 refine CallW.intro h rfl (fr := .nod (.val .leaf sv .leaf) .leaf) rfl ?_
 have hlen := hs.len
 rw [List.length_map] at hlen
 have hml : (ss.map fun s => [s.1]).length = ss.length := List.length_map _
 simp only [go_sem, cf127, hlen]
 refine loop_wp (I := fun n fr M' => n ≤ ss.length ∧ M' = M ∧ fr.get (.o .h) = some sv ∧ fr.get (.i (.i (.o .h))) = some sv ∧ fr.get (.o (.o (.i .h))) = some (.int 3 ss.length) ∧ fr.get (.i (.o (.i .h))) = some (.int 3 ((ss.length - n : Nat) : Int)) ∧ fr.get (.i (.o .h)) = some (.int 3 ((catV (ss.take (ss.length - n))).length : Int))) (n := ss.length) ?_ ?_
 ·exact ⟨Nat.le_refl _, rfl, rfl, rfl, rfl, by rw [Nat.sub_self]; rfl, by rw [Nat.sub_self]; rfl⟩
 ·rintro n fr M' ⟨i1, rfl, f1, f2, f3, f4, f5⟩
  cases n with
  | succ n =>
   have g1 : decide (((ss.length - (n + 1) : Nat) : Int) < (ss.length : Int)) = true := by simp only [decide_eq_true_eq]; omega
   have hi : ss.length - (n + 1) < ss.length := by omega
   obtain ⟨p, po, a1, a2⟩ := hs.at_ (i := ss.length - (n + 1)) (by rw [hml]; exact hi)
   rw [hml] at a1
   have a3 : (ss.map fun s => [s.1])[ss.length - (n + 1)]? = some [(ss[ss.length - (n + 1)]).1] := by simp [hi]
   rw [a3] at a2
   have a4 : MB.cell (M'.get p) (po + (ss.length - (n + 1)) * 1) = some (ss[ss.length - (n + 1)]).1 := by have := MB.cell_row a2 (j := 0) (by omega); simpa using this
   have hx := hss _ (List.getElem_mem hi)
   have ht := catV_take ss hi
   have hle := catV_le ss (ss.length - (n + 1) + 1)
   generalize ss[ss.length - (n + 1)] = x at *
   obtain ⟨xa, xl⟩ := x
   have hxl := hx.1.len
   rw [vlL_len] at hxl
   have e0 : ss.length - n = ss.length - (n + 1) + 1 := by omega
   rw [ht, List.length_append] at hle
   generalize hcl : (catV (ss.take (ss.length - (n + 1)))).length = cl at *
   have e1 : IntKind.i64.wrap ((cl : Int) + (xl.length : Int)) = ((cl + xl.length : Nat) : Int) := by rw [wrap64 (by omega) (by simp only at *; omega)]; omega
   have e2 : IntKind.i64.wrap (((ss.length - (n + 1) : Nat) : Int) + 1) = ((ss.length - n : Nat) : Int) := by rw [wrap64 (by omega) (by omega)]; omega
   have g2 : decide (((cl + xl.length : Nat) : Int) < 0) = false := by simp only [decide_eq_false_iff_not]; omega
   simp only at hxl
   simp only [go_sem, f1, f2, f3, f4, f5, g1, a1, hi, a4, hxl, e1, e2, g2]
   refine ⟨n, by omega, by omega, rfl, by simp [Tr.get_set, f1], by simp [Tr.get_set, f2], by simp [Tr.get_set, f3], by rw [Tr.get_set]; rfl, ?_⟩
   rw [e0, ht, List.length_append, hcl]
   simp only [Tr.get_set]
   rfl
  | zero =>
   have g1 : decide (((ss.length - 0 : Nat) : Int) < (ss.length : Int)) = false := by simp only [decide_eq_false_iff_not]; omega
   rw [Nat.sub_zero, List.take_length] at f5
   simp only [go_sem, f1, f2, f3, f4, f5, g1]
   refine (grow0_spec h152 hm).use ?_
   rintro r M1 hw1 ⟨v1, rfl, b1, s1⟩
   simp only [go_sem, f1, hlen]
   refine loop_wp (I := fun n fr M2 => n ≤ ss.length ∧ M2.wf ∧ But (fun _ => False) M' M2 ∧ (∃ v, FreshSl M' M2 v 2 (VlL (catV (ss.take (ss.length - n)))) ∧ fr.get (.o (.o (.o .h))) = some v) ∧ fr.get (.i (.i (.o (.i .h)))) = some sv ∧ fr.get (.o (.o (.i (.i .h)))) = some (.int 3 ss.length) ∧ fr.get (.i (.o (.i (.i .h)))) = some (.int 3 ((ss.length - n : Nat) : Int))) (n := ss.length) ?_ ?_
   ·exact ⟨Nat.le_refl _, hw1, b1, ⟨v1, by rw [Nat.sub_self]; exact s1, by simp [Tr.get_set]⟩, by simp [Tr.get_set], by simp [Tr.get_set], by rw [Nat.sub_self]; simp [Tr.get_set]⟩
   ·rintro n fr M2 ⟨i1, i2, i3, ⟨v, i4, f5⟩, f2, f3, f4⟩
    cases n with
    | zero =>
     have g1 : decide (((ss.length - 0 : Nat) : Int) < (ss.length : Int)) = false := by simp only [decide_eq_false_iff_not]; omega
     rw [Nat.sub_zero, List.take_length] at i4
     simp only [go_sem, f2, f3, f4, f5, g1]
     exact ⟨v, rfl, i3, i4⟩
    | succ n =>
     have g1 : decide (((ss.length - (n + 1) : Nat) : Int) < (ss.length : Int)) = true := by simp only [decide_eq_true_eq]; omega
     have hi : ss.length - (n + 1) < ss.length := by omega
     obtain ⟨p, po, a1, a2⟩ := (hs.old i3.old).at_ (i := ss.length - (n + 1)) (by rw [hml]; exact hi)
     rw [hml] at a1
     have a3 : (ss.map fun s => [s.1])[ss.length - (n + 1)]? = some [(ss[ss.length - (n + 1)]).1] := by simp [hi]
     rw [a3] at a2
     have a4 : MB.cell (M2.get p) (po + (ss.length - (n + 1)) * 1) = some (ss[ss.length - (n + 1)]).1 := by have := MB.cell_row a2 (j := 0) (by omega); simpa using this
     have hx := hss _ (List.getElem_mem hi)
     have ht := catV_take ss hi
     have hle := catV_le ss (ss.length - (n + 1) + 1)
     generalize ss[ss.length - (n + 1)] = x at *
     obtain ⟨xa, xl⟩ := x
     rw [ht, List.length_append] at hle
     simp only at hle
     obtain ⟨v3, M3, p3, s3, b3, w3⟩ := i4.app i3 hw i2 (hx.1.old i3.old) (by rw [vlL_len]; exact hx.2.1) hx.2.2 (fun y hy => by obtain ⟨z, _, rfl⟩ := List.mem_map.1 hy; rfl) (by omega) (by rw [vlL_len, vlL_len]; simp only [most]; omega)
     have e0 : ss.length - n = ss.length - (n + 1) + 1 := by omega
     have hv : VlL (catV (ss.take (ss.length - (n + 1)))) ++ VlL xl = VlL (catV (ss.take (ss.length - n))) := by rw [e0, ht]; simp [VlL]
     simp only at s3
     rw [hv] at s3
     have e2 : IntKind.i64.wrap (((ss.length - (n + 1) : Nat) : Int) + 1) = ((ss.length - n : Nat) : Int) := by rw [wrap64 (by omega) (by omega)]; omega
     simp only at p3
     simp only [go_sem, f2, f3, f4, f5, g1, a1, hi, a4, e2, p3]
     exact ⟨n, by omega, by omega, w3, b3, ⟨v3, s3, by simp [Tr.get_set]⟩, by simp [Tr.get_set, f2], by simp [Tr.get_set, f3], by rw [Tr.get_set]; rfl⟩
end Go.Proofs.Ythpnhdopheofcaa
end
section
namespace Go.Proofs.Ythpnhdopheofcaa
open Go.Dx
variable {tbl : Nat → Option CFunc}
theorem growF_len : ∀ (n : Nat) (a : List Vl) (l : List (Vl × Vl)), (growF n a l).1.length + 2 * (growF n a l).2.length ≤ a.length + 2 * l.length
 | 0, a, l => Nat.le_refl _
 | n + 1, a, l => by
  unfold growF
  cases h : posP l ⟨3, (a.length : Int) + 1⟩ with
  | none => exact Nat.le_refl _
  | some j =>
   have hj := posP_lt h
   have := growF_len n (a ++ [((l[j]?).map (·.2)).getD ⟨1, 0⟩]) (takeP l j)
   rw [takeP_len hj, List.length_append, List.length_singleton] at this
   simp only
   omega
theorem trimF_len : ∀ (n : Nat) (l : List Vl), (trimF n l).length ≤ l.length
 | 0, l => Nat.le_refl _
 | n + 1, l => by
  unfold trimF
  cases h : l.getLast? with
  | none => exact Nat.le_refl _
  | some v =>
   simp only
   split
   ·have := trimF_len n l.dropLast
    rw [List.length_dropLast] at this
    omega
   ·exact Nat.le_refl _
theorem layV_len (l : List Vl) (i : Nat) (v : Vl) : (layV l i v).length ≤ l.length := by
 unfold layV
 split
 ·rw [List.length_set]; exact Nat.le_refl _
 ·have := trimF_len l.length (l.set i v)
  rw [List.length_set] at this
  exact this
theorem putT_len (arr : List Vl) (prs : List (Vl × Vl)) (k v : Vl) : (putT arr prs k v).1.length + 2 * (putT arr prs k v).2.length ≤ arr.length + 2 * prs.length + 2 := by
 unfold putT
 split
 ·have := layV_len arr (k.n.toNat - 1) v
  simp only; omega
 ·cases h : posP prs k with
  | some j =>
   have hj := posP_lt h
   simp only
   split
   ·simp only [takeP_len hj]; omega
   ·simp only [List.length_set]; omega
  | none =>
   simp only
   split
   ·simp only; omega
   ·split
    ·have := growF_len prs.length (arr ++ [v]) prs
     rw [List.length_append, List.length_singleton] at this
     omega
    ·simp only [List.length_append, List.length_singleton]; omega
def Tb.put (T : Tb) (k v : Vl) : Tb := ⟨T.met, (putT T.arr T.prs k v).1, (putT T.arr T.prs k v).2⟩
theorem slO_nostr {M : Mem} {own : Own} {t : Tag} {v : AV} {size : Nat} {L : List (List AV)} (h : SlO M own t v size L) : ∀ l n, v ≠ .str l n := by
 rintro l n rfl
 have := h.len
 cases this
theorem body90 : cf90.body = .seq (seqHead cf90.body) (.seq (seqHead (seqTail 1 cf90.body)) (.seq (seqHead (seqTail 2 cf90.body)) (.seq (seqHead (seqTail 3 cf90.body)) (seqTail 4 cf90.body)))) := rfl
end Go.Proofs.Ythpnhdopheofcaa
end
section
namespace Go.Proofs.Ythpnhdopheofcaa
open Go.Dx
variable {tbl : Nat → Option CFunc}
structure FnT (tbl : Nat → Option CFunc) : Prop where
 h25 : tbl 25 = some cf25
 h40 : tbl 40 = some cf40
 h41 : tbl 41 = some cf41
 h44 : tbl 44 = some cf44
 h45 : tbl 45 = some cf45
 h46 : tbl 46 = some cf46
 h47 : tbl 47 = some cf47
 h48 : tbl 48 = some cf48
 h49 : tbl 49 = some cf49
 h50 : tbl 50 = some cf50
 h51 : tbl 51 = some cf51
 h75 : tbl 75 = some cf75
 h76 : tbl 76 = some cf76
 h77 : tbl 77 = some cf77
 h81 : tbl 81 = some cf81
 h84 : tbl 84 = some cf84
 h85 : tbl 85 = some cf85
 h86 : tbl 86 = some cf86
 h87 : tbl 87 = some cf87
 h88 : tbl 88 = some cf88
 h89 : tbl 89 = some cf89
 h90 : tbl 90 = some cf90
 h91 : tbl 91 = some cf91
 h92 : tbl 92 = some cf92
 h93 : tbl 93 = some cf93
 h94 : tbl 94 = some cf94
 h95 : tbl 95 = some cf95
 h96 : tbl 96 = some cf96
 h97 : tbl 97 = some cf97
 h98 : tbl 98 = some cf98
 h99 : tbl 99 = some cf99
 h100 : tbl 100 = some cf100
 h103 : tbl 103 = some cf103
 h115 : tbl 115 = some cf115
 h117 : tbl 117 = some cf117
 h121 : tbl 121 = some cf121
 h122 : tbl 122 = some cf122
 h123 : tbl 123 = some cf123
 h124 : tbl 124 = some cf124
 h125 : tbl 125 = some cf125
 h126 : tbl 126 = some cf126
 h127 : tbl 127 = some cf127
 h128 : tbl 128 = some cf128
 h129 : tbl 129 = some cf129
 h130 : tbl 130 = some cf130
 h131 : tbl 131 = some cf131
 h143 : tbl 143 = some cf143
 h145 : tbl 145 = some cf145
 h146 : tbl 146 = some cf146
 h147 : tbl 147 = some cf147
 h148 : tbl 148 = some cf148
 h149 : tbl 149 = some cf149
 h150 : tbl 150 = some cf150
 h151 : tbl 151 = some cf151
 h152 : tbl 152 = some cf152
theorem FnT.tb (F : FnT tbl) : TbT tbl := ⟨F.h25, F.h40, F.h41, F.h44, F.h45, F.h46, F.h47, F.h48, F.h49, F.h50, F.h51, F.h75, F.h76, F.h77, F.h81, F.h84, F.h85, F.h86, F.h87, F.h88, F.h91, F.h96, F.h99, F.h100, F.h103, F.h115, F.h117, F.h121, F.h122, F.h123, F.h124, F.h130, F.h131, F.h143, F.h145⟩
theorem FnT.dc (F : FnT tbl) : DcT tbl := ⟨F.h117, F.h121, F.h124, F.h125, F.h128, F.h129, F.h143, F.h145, F.h146⟩
theorem FnT.pt (F : FnT tbl) : PutT tbl := ⟨F.dc, F.h77, F.h123, F.h126, F.h147, F.h148, F.h149, F.h150, F.h151⟩
structure HasT (G : Hp) (tn : Int) (T : Tb) : Prop where
 may : mayV ⟨6, tn⟩ = true
 obj : ∃ o, G.objs tn = some o ∧ o.kind = 6 ∧ o.slots = T.slots
 ok : TbOk T
section
variable {M : Mem} {hp : Pos} {P : Pos → Prop} {G : Hp} {tn : Int} {T : Tb}
theorem slots_ok (F : FnT tbl) (hH : HeapIs M hp P G) (hT : HasT G tn T) :
  CallW tbl 100 (.cons (.ptr hp 0) (.cons (VlA ⟨6, tn⟩) .nil)) M fun r M' => ∃ sv, r = .ret (.tuple (.cons sv (.cons (.bool true) .nil))) ∧ CutSl M' sv 2 (VlL T.slots) ∧ But (fun _ => False) M M' := by
 refine CallW.wf fun hw => ?_
 refine CallW.intro F.h100 rfl (fr := .nod (.val .leaf (.ptr hp 0) .leaf) (.val .leaf (VlA ⟨6, tn⟩) .leaf)) rfl ?_
 have b1 := But.new (S := fun _ => False) hw (.cells [.int 3 6, .int 3 tn] false)
 have w1 := hw.new (.cells [.int 3 6, .int 3 tn] false)
 have x1 : (M.new (.cells [.int 3 6, .int 3 tn] false)).get M.next = some (.cells [.int 3 6, .int 3 tn] false) := by simp only [go_sem]
 have g1 : ((6 : Int) != 6) = false := rfl
 simp only [go_sem, cf100, VlA, g1]
 refine (ref_spec F.h77 F.h117 F.h143 (v := ⟨6, tn⟩)).use ?_
 rintro r M2 hw2 ⟨rfl, b2⟩
 have hr : refV ⟨6, tn⟩ = true := by simp [refV, hT.may]
 have x2 := b2.get _ _ id x1
 rw [hr]
 simp only [go_sem, x2]
 have hH2 := hH.quiet (b1.trans b2)
 obtain ⟨o, ho, hk, hs⟩ := hT.obj
 have hl := hT.ok.len
 refine (obj_some F.h25 F.h75 F.h76 hH2 ho (by rw [hs]; simp only [most]; omega)).use ?_
 rintro r M3 hw3 ⟨sv, rfl, hfr, b3⟩
 have hcs := hfr.cell
 obtain ⟨own', _, hso⟩ := hfr (fun _ => none) (0, 0) (fun p h => absurd rfl h)
 have hcut := hso.cutSl
 rw [hs] at hcut
 have g3 : (o.kind != 6) = false := by simp [hk]
 have b4 := But.fill hw3 (.cells [.int 3 0, .int 3 0, .nilslice, .str 0 0, .int 3 0] false) (.cells [.int 3 o.kind, .int 3 o.count, sv, .str o.tl o.tn, .int 3 o.mark] false)
 have w4 := hw3.fill (.cells [.int 3 0, .int 3 0, .nilslice, .str 0 0, .int 3 0] false) (.cells [.int 3 o.kind, .int 3 o.count, sv, .str o.tl o.tn, .int 3 o.mark] false)
 have x4 : ((M3.new (.cells [.int 3 0, .int 3 0, .nilslice, .str 0 0, .int 3 0] false)).put M3.next (.cells [.int 3 o.kind, .int 3 o.count, sv, .str o.tl o.tn, .int 3 o.mark] false)).get M3.next = some (.cells [.int 3 o.kind, .int 3 o.count, sv, .str o.tl o.tn, .int 3 o.mark] false) := by simp [Mem.put]
 have hcut4 := hcut.quiet b4
 simp only [go_sem, ObA, hcs, g3]
 generalize hM4 : (M3.new (.cells [.int 3 0, .int 3 0, .nilslice, .str 0 0, .int 3 0] false)).put M3.next (.cells [.int 3 o.kind, .int 3 o.count, sv, .str o.tl o.tn, .int 3 o.mark] false) = M4 at *
 refine (check_ok F.dc F.h131 hcut4 hT.ok).use ?_
 rintro r M5 hw5 ⟨rfl, b5⟩
 have x5 := b5.get _ _ id x4
 simp only [go_sem, x5]
 exact ⟨sv, rfl, hcut4.quiet b5, ((b1.trans b2).trans b3).trans (b4.trans b5)⟩
end
end Go.Proofs.Ythpnhdopheofcaa
end
section
namespace Go.Proofs.Ythpnhdopheofcaa
open Go.Dx
variable {tbl : Nat → Option CFunc}
def layG (G : Hp) (tn : Int) (l : List Vl) : Hp := { G with objs := upd G.objs tn ((G.objs tn).map fun o => { o with slots := l }) }
end Go.Proofs.Ythpnhdopheofcaa
end
section
namespace Go.Proofs.Ythpnhdopheofcaa
open Go.Dx
def lookP (l : List (Vl × Vl)) (k : Vl) : Option Vl := (posP l k).bind fun i => (l[i]?).map (·.2)
theorem lookP_nil (k : Vl) : lookP [] k = none := rfl
theorem lookP_cons (x : Vl × Vl) (l : List (Vl × Vl)) (k : Vl) : lookP (x :: l) k = if x.1 = k then some x.2 else lookP l k := by
 unfold lookP posP
 rw [List.findIdx?_cons]
 by_cases h : x.1 = k
 ·simp [h]
 ·simp only [h, decide_false, Bool.false_eq_true, if_false]
  cases List.findIdx? (fun x => decide (x.1 = k)) l <;> simp
theorem lookP_iff (l : List (Vl × Vl)) (k v : Vl) (hd : (l.map (·.1)).Nodup) : lookP l k = some v ↔ (k, v) ∈ l := by
 induction l with
 | nil => simp [lookP_nil]
 | cons x l ih =>
  rw [List.map_cons, List.nodup_cons] at hd
  rw [lookP_cons]
  by_cases h : x.1 = k
  ·simp only [h, if_true, Option.some.injEq, List.mem_cons]
   constructor
   ·intro e; left; rw [← h, ← e]
   ·rintro (e | e)
    ·rw [← e]
    ·exact absurd (List.mem_map.2 ⟨_, e, rfl⟩) (h ▸ hd.1)
  ·simp only [h, if_false, ih hd.2, List.mem_cons]
   constructor
   ·exact .inr
   ·rintro (e | e)
    ·exact absurd (by rw [← e]) h
    ·exact e
theorem posP_key {l : List (Vl × Vl)} {k : Vl} {j : Nat} (h : posP l k = some j) : (l[j]'(posP_lt h)).1 = k := by
 have := (List.findIdx?_eq_some_iff_getElem.1 h).2.1
 simpa using this
theorem posP_not {l : List (Vl × Vl)} {k : Vl} (h : posP l k = none) : ∀ x ∈ l, x.1 ≠ k := by
 unfold posP at h
 rw [List.findIdx?_eq_none_iff] at h
 intro x hx e
 have := h x hx
 simp [e] at this
theorem takeP_split (A B : List (Vl × Vl)) (x : Vl × Vl) : (takeP (A ++ x :: B) A.length).Perm (A ++ B) := by
 have h1 : (A ++ x :: B).take A.length = A := List.take_left
 have h2 : (A ++ x :: B).drop (A.length + 1) = B := by
  rw [show A ++ x :: B = (A ++ [x]) ++ B by simp, show A.length + 1 = (A ++ [x]).length by simp, List.drop_left]
 rcases List.eq_nil_or_concat B with rfl | ⟨B', y, rfl⟩
 ·have h3 : (A ++ [x]).drop A.length = [x] := List.drop_left
  have h4 : (A ++ [x]).length - 1 = A.length := by simp
  unfold takeP
  rw [h4, h1, h2, h3, List.append_nil, List.append_nil, List.take_left]
 ·have e : A ++ x :: (B' ++ [y]) = (A ++ x :: B') ++ [y] := by simp
  have h4 : (A ++ x :: (B' ++ [y])).length - 1 = (A ++ x :: B').length := by simp
  have h3 : (A ++ x :: (B' ++ [y])).drop (A ++ x :: B').length = [y] := by rw [e, List.drop_left]
  unfold takeP
  rw [List.concat_eq_append] at *
  rw [h4, h1, h2, h3]
  have h5 : (A ++ [y] ++ (B' ++ [y])) = (A ++ [y] ++ B') ++ [y] := by simp
  have h6 : (A ++ x :: B').length = (A ++ [y] ++ B').length := by simp
  rw [h5, h6, List.take_left, List.append_assoc]
  exact List.Perm.append_left A (List.perm_append_comm (l₁ := [y]) (l₂ := B'))
theorem split_at {α : Type} (l : List α) {j : Nat} (hj : j < l.length) : ∃ A B, l = A ++ l[j] :: B ∧ A.length = j := by
 refine ⟨l.take j, l.drop (j + 1), ?_, by simp; omega⟩
 rw [← List.drop_eq_getElem_cons, List.take_append_drop]
theorem takeP_facts {l : List (Vl × Vl)} {j : Nat} (hj : j < l.length) (hd : (l.map (·.1)).Nodup) :
  ((takeP l j).map (·.1)).Nodup ∧ (∀ x, x ∈ takeP l j ↔ x ∈ l ∧ x.1 ≠ l[j].1) ∧ ∀ k, lookP (takeP l j) k = if k = l[j].1 then none else lookP l k := by
 obtain ⟨A, B, hl, hA⟩ := split_at l hj
 generalize l[j] = x at *
 subst hl hA
 have hp := takeP_split A B x
 rw [List.map_append, List.map_cons, List.nodup_append] at hd
 obtain ⟨d1, d2, d3⟩ := hd
 rw [List.nodup_cons] at d2
 have hn : ((A ++ B).map (·.1)).Nodup := by
  rw [List.map_append, List.nodup_append]
  exact ⟨d1, d2.2, fun a ha b hb => d3 a ha b (List.mem_cons_of_mem _ hb)⟩
 have hnt : ((takeP (A ++ x :: B) A.length).map (·.1)).Nodup := (hp.map _).nodup_iff.2 hn
 have hm : ∀ y, y ∈ takeP (A ++ x :: B) A.length ↔ y ∈ (A ++ x :: B) ∧ y.1 ≠ x.1 := by
  intro y
  rw [hp.mem_iff, List.mem_append, List.mem_append, List.mem_cons]
  constructor
  ·rintro (h | h)
   ·exact ⟨.inl h, d3 _ (List.mem_map.2 ⟨y, h, rfl⟩) _ (List.mem_cons_self ..)⟩
   ·exact ⟨.inr (.inr h), fun e => d2.1 (by rw [← e]; exact List.mem_map.2 ⟨y, h, rfl⟩)⟩
  ·rintro ⟨h | h | h, hne⟩
   ·exact .inl h
   ·exact absurd (by rw [h]) hne
   ·exact .inr h
 refine ⟨hnt, hm, fun k => ?_⟩
 have hd' : ((A ++ x :: B).map (·.1)).Nodup := by
  rw [List.map_append, List.map_cons, List.nodup_append]; exact ⟨d1, List.nodup_cons.2 d2, d3⟩
 apply Option.ext
 intro v
 rw [lookP_iff _ _ _ hnt, hm]
 by_cases e : k = x.1
 ·simp [e]
 ·simp [e, lookP_iff _ _ _ hd']
def numV (v : Vl) : Prop := v.k = 3 ∨ v = ⟨1, 0⟩
theorem placed_iff (k : Vl) (n : Int) : placedV k n = true ↔ k.k = 3 ∧ 1 ≤ k.n ∧ k.n ≤ n := by simp [placedV]
theorem placed_false {k : Vl} {n : Int} : placedV k n = false ↔ ¬ (k.k = 3 ∧ 1 ≤ k.n ∧ k.n ≤ n) := by rw [← placed_iff]; simp
structure NumA (arr : List Vl) (prs : List (Vl × Vl)) (b : Nat) : Prop where
 arr_ : ∀ v ∈ arr, numV v
 prs_ : ∀ x ∈ prs, x.1.k = 3 ∧ x.2.k = 3
 last : ∀ v, arr.getLast? = some v → v ≠ ⟨1, 0⟩
 once : (prs.map (·.1)).Nodup
 key : ∀ x ∈ prs, placedV x.1 ((arr.length : Int) + b) = false
theorem trim_law : ∀ (n : Nat) (l : List Vl), l.length ≤ n → (∃ m, l = trimF n l ++ List.replicate m ⟨1, 0⟩) ∧ ∀ v, (trimF n l).getLast? = some v → v ≠ ⟨1, 0⟩ := by
 intro n
 induction n with
 | zero =>
  intro l hl
  have : l = [] := List.length_eq_zero_iff.1 (by omega)
  subst this
  exact ⟨⟨0, rfl⟩, fun v hv => by cases hv⟩
 | succ n ih =>
  intro l hl
  unfold trimF
  cases hg : l.getLast? with
  | none =>
   simp only
   exact ⟨⟨0, by simp⟩, fun v hv => by rw [hg] at hv; cases hv⟩
  | some v =>
   simp only
   by_cases hv : nullV v = true
   ·rw [if_pos hv]
    have hne : l ≠ [] := by intro e; rw [e] at hg; cases hg
    obtain ⟨⟨m, h1⟩, h2⟩ := ih l.dropLast (by rw [List.length_dropLast]; omega)
    refine ⟨⟨m + 1, ?_⟩, h2⟩
    have e1 : l = l.dropLast ++ [v] := by
     obtain ⟨ys, rfl⟩ := List.getLast?_eq_some_iff.1 hg
     rw [List.dropLast_concat]
    have hv0 : v = ⟨1, 0⟩ := by simpa [nullV] using hv
    rw [List.replicate_succ', ← List.append_assoc, ← h1, ← hv0]
    exact e1
   ·rw [if_neg hv]
    refine ⟨⟨0, by simp⟩, fun w hw => ?_⟩
    rw [hg] at hw
    cases hw
    intro e
    exact hv (by simp [nullV, e])
theorem lay_law {arr : List Vl} {i : Nat} {v : Vl} (hi : i < arr.length) (hl : ∀ v, arr.getLast? = some v → v ≠ ⟨1, 0⟩) :
  (∃ m, arr.set i v = layV arr i v ++ List.replicate m ⟨1, 0⟩) ∧ ∀ w, (layV arr i v).getLast? = some w → w ≠ ⟨1, 0⟩ := by
 unfold layV
 by_cases h : i + 1 < arr.length
 ·rw [if_pos h]
  refine ⟨⟨0, by simp⟩, fun w hw => hl w ?_⟩
  rw [List.getLast?_eq_getElem?] at hw ⊢
  rw [List.length_set, List.getElem?_set_ne (by omega)] at hw
  exact hw
 ·rw [if_neg h]
  exact trim_law _ _ (by rw [List.length_set]; exact Nat.le_refl _)
theorem set_keys (l : List (Vl × Vl)) {j : Nat} (hj : j < l.length) (v : Vl) : (l.set j (l[j].1, v)).map (·.1) = l.map (·.1) := by
 rw [List.map_set]
 simp only
 have : l[j].1 = (l.map (·.1))[j]'(by rw [List.length_map]; exact hj) := by simp
 rw [this, List.set_getElem_self]
structure NumT (T : Tb) : Prop extends NumA T.arr T.prs 1 where
 met : T.met = ⟨1, 0⟩
end Go.Proofs.Ythpnhdopheofcaa
end
