import Derived.Test.YthpnhdopheofcaaDxWk
import Derived.Test.YthpnhdopheofcaaSt
import Derived.Test.YthpnhdopheofcaaFns
set_option linter.unusedSimpArgs false
set_option linter.unusedVariables false
section
namespace Go.Proofs.Ythpnhdopheofcaa
open Go.Dx
variable {tbl : Nat → Option CFunc}
theorem make_str (h48 : tbl 48 = some cf48) (h99 : tbl 99 = some cf99) (h130 : tbl 130 = some cf130) {M : Mem} {hp : Pos} {P : Pos → Prop} {G : Hp} {tl tn : Nat} (ht : tl ≤ 4096) (hH : HeapIs M hp P G) (hf : G.free = []) (hn : -(2 ^ 62) ≤ G.next ∧ G.next < 2 ^ 62) :
  CallW tbl 48 (.cons (.ptr hp 0) (.cons (.int 3 5) (.cons (.str tl tn) .nil))) M fun r M' => r = .ret (VlA ⟨5, G.next⟩) ∧ HeapIs M' hp P { takeG G with objs := upd G.objs G.next (some ⟨5, 1, [], tl, tn, 0⟩) } ∧ But (fun p => ¬ P p) M M' := by
 refine CallW.wf fun hw => ?_
 obtain ⟨own, Y, rfl, hP, hB⟩ := hH
 refine CallW.intro h48 rfl (fr := .nod (.val (.val .leaf (.str tl tn) .leaf) (.ptr Y.hp 0) .leaf) (.val .leaf (.int 3 5) .leaf)) rfl ?_
 have g1 : decide ((5 : Int) < 5) = false := rfl
 have g2 : decide ((9 : Int) < 5) = false := rfl
 have g3 : ((5 : Int) == 5) = true := rfl
 have g4 : decide ((4096 : Int) < (tl : Int)) = false := by simp only [decide_eq_false_iff_not]; omega
 have b1 := But.new (S := fun _ => False) hw (.cells [.int 3 0, .int 3 0] false)
 have w1 := hw.new (.cells [.int 3 0, .int 3 0] false)
 have b2 := But.fill w1 (.cells [.int 3 5, .int 3 1, .nilslice, .str 0 0, .int 3 0] false) (.cells [.int 3 5, .int 3 1, .nilslice, .str tl tn, .int 3 0] false)
 have w2 := w1.fill (.cells [.int 3 5, .int 3 1, .nilslice, .str 0 0, .int 3 0] false) (.cells [.int 3 5, .int 3 1, .nilslice, .str tl tn, .int 3 0] false)
 have hB2 := hB.quiet (b1.trans b2)
 have hcc := hB2.hpc
 simp only [hpC] at hcc
 simp only [go_sem] at hcc
 simp only [go_sem, cf48, g1, g2, g3, g4, hcc]
 refine (take_new h99 h130 hB2 hf hn).use ?_
 rintro r M3 hw3 ⟨rfl, hB3, b3⟩
 have hc3 := hB3.hpc
 simp only [hpC] at hc3
 obtain ⟨es, c, m1, m2⟩ := hB3.mpc
 obtain ⟨es', fr, p1, p2⟩ := m2.put (goodInt 3) (a := .int 3 (takeN G)) (v := .ptr M.next.succ 0) ⟨_, rfl⟩ c
 have hno : ∀ q : Pos, M.next.num ≤ q.num → own q = none := fun q hq => by
  cases h : own q with
  | none => rfl
  | some s => have := hB.inn q (by rw [h]; simp); omega
 have n2 : M.next.succ.num = M.next.num + 1 := Pos.num_succ _
 have o1 := hno M.next (Nat.le_refl _)
 have o2 := hno M.next.succ (by omega)
 have e1 : M3.get M.next = some (.cells [.int 3 0, .int 3 0] false) := b3.get _ _ (by rw [o1]; simp) (by simp only [go_sem])
 have e2 : M3.get M.next.succ = some (.cells [.int 3 5, .int 3 1, .nilslice, .str tl tn, .int 3 0] false) := b3.get _ _ (by rw [o2]; simp) (by simp only [go_sem])
 obtain ⟨es0, c0, z1, _⟩ := hB.mpc
 have ne := hw.ne' z1
 have eN : takeN G = G.next := by simp [takeN, hf]
 simp only [go_sem, hc3, m1, p1, e1, ne]
 have hadd := hB3.addObj (q := M.next.succ) (n := takeN G) (o := ⟨5, 1, [], tl, tn, 0⟩) (c' := if fr = true then c + 1 else c) o2 (by have e : M.next.succ.succ.num ≤ M3.next.num := b3.next; rw [Pos.num_succ] at e; omega) e2 rfl (p2.congr (objF_add _ _ _ _ _))
 rw [eN] at hadd ⊢
 have bq : But (fun p => ¬ P p) M (M3.put Y.mp (.map es' (if fr = true then c + 1 else c))) := (((b1.trans b2).any _).trans (b3.mono fun p h => by
  cases ho : own p with
  | none => exact absurd ho h
  | some s => exact HeapIs.not hP ho)).trans (But.put (p := Y.mp) _ (HeapIs.not hP hB.mpo) _)
 have hPn : ∀ p, P p → (own.with M.next.succ (4, G.next)) p = none ∧ p.num < M3.next.num := fun p hp => ⟨by
  unfold Own.with
  rw [if_neg (fun e => by have := (hP p hp).2; rw [e] at this; omega)]; exact (hP p hp).1, Nat.lt_of_lt_of_le (hP p hp).2 (Nat.le_trans (b1.trans b2).next b3.next)⟩
 refine ⟨rfl, ⟨own.with M.next.succ (4, G.next), { Y with ob := upd Y.ob G.next M.next.succ, sv := upd Y.sv G.next .nilslice }, rfl, hPn, hadd.keep (But.put (p := M.next) _ ?_ _)⟩, bq.trans (But.put (p := M.next) _ (fun e => ?_) _)⟩
 ·unfold Own.with
  rw [if_neg (fun e => by have := congrArg Pos.num e; omega)]; exact o1
 ·have := (hP _ e).2; omega
theorem index_none (h : tbl 145 = some cf145) {g : Nat} {cap : AV} {M : Mem} {sv : AV} {l : List Vl} (hs : SlIs M sv 2 (VlL l)) (hl : l.length < 2 ^ 62) (hcall : ∀ v ∈ l, ∀ M', M'.wf → But (fun _ => False) M M' → CallW tbl g (.cons (VlA v) (.cons cap .nil)) M' fun r M'' => r = .ret (.bool false) ∧ But (fun _ => False) M' M'') :
  CallW tbl 145 (.cons sv (.cons (.func (.func g) .nil (.cons cap .nil)) .nil)) M fun r M' => r = .ret (.int 3 (-1)) ∧ But (fun _ => False) M M' := by
 refine CallW.wf fun hw => ?_
 refine CallW.intro h rfl (fr := .nod (.val .leaf sv .leaf) (.val .leaf (.func (.func g) .nil (.cons cap .nil)) .leaf)) rfl ?_
 have hlen := hs.len
 rw [vlL_len] at hlen
 simp only [go_sem, cf145, hlen]
 refine loop_wp (I := fun n fr M' => n ≤ l.length ∧ M'.wf ∧ But (fun _ => False) M M' ∧ fr.get (.o .h) = some sv ∧ fr.get (.i .h) = some (.func (.func g) .nil (.cons cap .nil)) ∧ fr.get (.i (.o (.o .h))) = some (.int 3 l.length) ∧ fr.get (.o (.i (.o .h))) = some (.int 3 ((l.length - n : Nat) : Int))) (n := l.length) ?_ ?_
 ·exact ⟨Nat.le_refl _, hw, But.refl _ _, rfl, rfl, rfl, by rw [Nat.sub_self]; rfl⟩
 ·rintro n fr M' ⟨i1, i2, i3, f1, f2, f3, f4⟩
  cases n with
  | zero =>
   have g1 : decide (((l.length - 0 : Nat) : Int) < (l.length : Int)) = false := by simp only [decide_eq_false_iff_not]; omega
   simp only [go_sem, f1, f2, f3, f4, g1]
   exact i3
  | succ n =>
   have g1 : decide (((l.length - (n + 1) : Nat) : Int) < (l.length : Int)) = true := by simp only [decide_eq_true_eq]; omega
   have hi : l.length - (n + 1) < l.length := by omega
   obtain ⟨p, po, a1, a2⟩ := (hs.old i3.old).at_ (i := l.length - (n + 1)) (by rw [vlL_len]; exact hi)
   rw [vlL_len] at a1
   have a3 : (VlL l)[l.length - (n + 1)]? = some (VlR l[l.length - (n + 1)]) := by simp [VlL, hi]
   rw [a3] at a2
   simp only [VlR] at a2
   simp only [go_sem, f1, f2, f3, f4, g1, a1, a2, hi]
   refine (hcall l[l.length - (n + 1)] (List.getElem_mem hi) M' i2 i3).use ?_
   rintro r M2 hw2 ⟨rfl, b2⟩
   have e1 : IntKind.i64.wrap (((l.length - (n + 1) : Nat) : Int) + 1) = ((l.length - n : Nat) : Int) := by rw [wrap64 (by omega) (by omega)]; omega
   simp only [go_sem, f1, f2, f3, f4, e1]
   exact ⟨n, by omega, by omega, hw2, i3.trans b2, by simp [Tr.get_set, f1], by simp [Tr.get_set, f2], by simp [Tr.get_set, f3], by rw [Tr.get_set]; rfl⟩
theorem contains_none (h : tbl 121 = some cf121) (h1 : tbl 145 = some cf145) {g : Nat} {cap : AV} {M : Mem} {sv : AV} {l : List Vl} (hs : SlIs M sv 2 (VlL l)) (hl : l.length < 2 ^ 62) (hcall : ∀ v ∈ l, ∀ M', M'.wf → But (fun _ => False) M M' → CallW tbl g (.cons (VlA v) (.cons cap .nil)) M' fun r M'' => r = .ret (.bool false) ∧ But (fun _ => False) M' M'') :
  CallW tbl 121 (.cons sv (.cons (.func (.func g) .nil (.cons cap .nil)) .nil)) M fun r M' => r = .ret (.bool false) ∧ But (fun _ => False) M M' := by
 refine CallW.intro h rfl (fr := .nod (.val .leaf sv .leaf) (.val .leaf (.func (.func g) .nil (.cons cap .nil)) .leaf)) rfl ?_
 simp only [go_sem, cf121]
 refine (index_none h1 hs hl hcall).use ?_
 rintro r M1 hw1 ⟨rfl, b1⟩
 have g1 : decide ((0 : Int) ≤ -1) = false := rfl
 simp only [go_sem, g1]
 first | exact b1 | exact ⟨rfl, b1⟩
theorem lay1_spec (h122 : tbl 122 = some cf122) (h77 : tbl 77 = some cf77) (h115 : tbl 115 = some cf115) (h117 : tbl 117 = some cf117) (h143 : tbl 143 = some cf143) {M : Mem} {own : Own} {Y : Lay} {G : Hp} {v : Vl} {b : Pos} {op : Bool} (hB : HeapB M own Y G) (hb : M.get b = some (.cells [.ptr Y.hp 0] op)) (ht : thereV G v = true) :
  CallW tbl 122 (.cons (VlA v) (.cons (.ptr b 0) .nil)) M fun r M' => r = .ret (.bool false) ∧ But (fun _ => False) M M' := by
 refine CallW.wf fun hw => ?_
 obtain ⟨vk, vn⟩ := v
 refine CallW.intro h122 rfl (fr := .nod (.val .leaf (VlA ⟨vk, vn⟩) .leaf) (.val .leaf (.ptr b 0) .leaf)) rfl ?_
 have b1 := But.new (S := fun _ => False) hw (.cells [.int 3 vk, .int 3 vn] false)
 have ne := hw.ne hb
 simp only [go_sem, cf122, VlA, hb, ne]
 refine (there_spec h115 h77 h117 h143 (v := ⟨vk, vn⟩) (hB.quiet b1)).use ?_
 rintro r M2 hw2 ⟨rfl, b2⟩
 simp only [go_sem, ht]
 first | exact b1.trans b2 | exact ⟨rfl, b1.trans b2⟩
theorem lay_ok (h75 : tbl 75 = some cf75) (h76 : tbl 76 = some cf76) (h77 : tbl 77 = some cf77) (h81 : tbl 81 = some cf81) (h85 : tbl 85 = some cf85) (h86 : tbl 86 = some cf86) (h115 : tbl 115 = some cf115) (h117 : tbl 117 = some cf117) (h121 : tbl 121 = some cf121) (h122 : tbl 122 = some cf122) (h143 : tbl 143 = some cf143) (h145 : tbl 145 = some cf145)
  {M : Mem} {hp : Pos} {P : Pos → Prop} {G : Hp} {n : Int} {sv : AV} {l : List Vl} {o : Ob} (hH : HeapIs M hp P G) (ho : G.objs n = some o) (hk : o.kind ≠ 5) (hs : SlIs M sv 2 (VlL l)) (hl : l.length ≤ most) (ht : ∀ v ∈ l, thereV G v = true) :
  CallW tbl 86 (.cons (.ptr hp 0) (.cons (.int 3 n) (.cons sv .nil))) M fun r M' => r = .ret (.int 3 0) ∧ HeapIs M' hp P { G with objs := upd G.objs n (some { o with slots := l }) } ∧ But (fun p => ¬ P p) M M' := by
 refine CallW.wf fun hw => ?_
 obtain ⟨own, Y, rfl, hP, hB⟩ := hH
 refine CallW.intro h86 rfl (fr := .nod (.val (.val .leaf sv .leaf) (.ptr Y.hp 0) .leaf) (.val .leaf (.int 3 n) .leaf)) rfl ?_
 have b1 := But.new (S := fun _ => False) hw (.cells [.ptr Y.hp 0] false)
 have w1 := hw.new (.cells [.ptr Y.hp 0] false)
 have x1 : (M.new (.cells [.ptr Y.hp 0] false)).get M.next = some (.cells [.ptr Y.hp 0] false) := by simp only [go_sem]
 simp only [go_sem, cf86]
 refine (find_some h75 (hB.quiet b1) ho).use ?_
 rintro r M1 hw1 ⟨rfl, rfl⟩
 have hB1 := hB.quiet b1
 obtain ⟨o1, o2, o3⟩ := hB1.obj n o ho
 simp only [ObR] at o2
 have g : (o.kind == 5) = false := by simp [hk]
 simp only [go_sem, o2, g]
 have hs1 := hs.old b1.old
 refine (contains_none h121 h145 hs1 (by simp only [most] at hl; omega) (fun v hv M' hw' b' => lay1_spec h122 h77 h115 h117 h143 (hB1.quiet b') (b'.get _ _ id x1) (ht v hv))).use ?_
 rintro r M2 hw2 ⟨rfl, b2⟩
 simp only [go_sem]
 refine (clone_spec h76 (hs1.old b2.old) (vlL_cells l) (by rw [vlL_len]; exact hl)).use ?_
 rintro r M3 hw3 ⟨cv, rfl, b3, hfr⟩
 have hB2 := hB1.quiet b2
 obtain ⟨own3, u3, s3⟩ := hfr own (5, n) hB2.inn
 have o4 := (b2.trans b3).get _ _ id o2
 have x3 := (b2.trans b3).get _ _ id x1
 have hc3 := s3.cell
 have nb : (M.next = Y.ob n) = False := hw.ne' (hB.obj n o ho).2.1
 simp only [go_sem, o4, hc3, x3, nb]
 have hset := hB2.setObj (n := n) (x := { o with slots := l }) (v := cv) u3 (b3.any _) ho s3
 have q1 := (hB2.obj n o ho).1
 have hP2 : ∀ p, P p → own3 p = none ∧ p.num < (M3.put (Y.ob n) (.cells [.int 3 o.kind, .int 3 o.count, cv, .str o.tl o.tn, .int 3 o.mark] false)).next.num := fun p hp =>
  have hlt := Nat.lt_of_lt_of_le (hP p hp).2 (b1.trans b2).next
  ⟨u3.none_ (hP p hp).1 hlt, Nat.lt_of_lt_of_le hlt b3.next⟩
 have bb : But (fun p => ¬ P p) M (M3.put (Y.ob n) (.cells [.int 3 o.kind, .int 3 o.count, cv, .str o.tl o.tn, .int 3 o.mark] false)) :=
  (((b1.trans b2).trans b3).any _).trans (But.put (p := Y.ob n) _ (HeapIs.not hP q1) _)
 refine (touch_spec h81 h85 (n := n) hset).use ?_
 rintro r M4 hw4 ⟨rfl, b4⟩
 simp only [go_sem]
 exact ⟨HeapIs.quiet ⟨own3, { Y with sv := upd Y.sv n cv }, rfl, hP2, hset⟩ b4, bb.trans (b4.any _)⟩
end Go.Proofs.Ythpnhdopheofcaa
end
section
namespace Go.Proofs.Ythpnhdopheofcaa
open Go.Dx
variable {tbl : Nat → Option CFunc}
structure TbT (tbl : Nat → Option CFunc) : Prop where
 h25 : tbl 25 = some cf25
 h40 : tbl 40 = some cf40
 h41 : tbl 41 = some cf41
 h44 : tbl 44 = some cf44
 h45 : tbl 45 = some cf45
 h46 : tbl 46 = some cf46
 h47 : tbl 47 = some cf47
 h48 : tbl 48 = some cf48
 h49 : tbl 49 = some cf49
 h50 : tbl 50 = some cf50
 h51 : tbl 51 = some cf51
 h75 : tbl 75 = some cf75
 h76 : tbl 76 = some cf76
 h77 : tbl 77 = some cf77
 h81 : tbl 81 = some cf81
 h84 : tbl 84 = some cf84
 h85 : tbl 85 = some cf85
 h86 : tbl 86 = some cf86
 h87 : tbl 87 = some cf87
 h88 : tbl 88 = some cf88
 h91 : tbl 91 = some cf91
 h96 : tbl 96 = some cf96
 h99 : tbl 99 = some cf99
 h100 : tbl 100 = some cf100
 h103 : tbl 103 = some cf103
 h115 : tbl 115 = some cf115
 h117 : tbl 117 = some cf117
 h121 : tbl 121 = some cf121
 h122 : tbl 122 = some cf122
 h123 : tbl 123 = some cf123
 h124 : tbl 124 = some cf124
 h130 : tbl 130 = some cf130
 h131 : tbl 131 = some cf131
 h143 : tbl 143 = some cf143
 h145 : tbl 145 = some cf145
theorem integer_spec (h : tbl 123 = some cf123) {M : Mem} (n : Int) : CallW tbl 123 (.cons (.int 3 n) .nil) M fun r M' => r = .ret (VlA ⟨3, n⟩) ∧ But (fun _ => False) M M' := by
 refine CallW.wf fun hw => ?_
 refine CallW.intro h rfl (fr := .nod (.val .leaf (.int 3 n) .leaf) .leaf) rfl ?_
 simp only [go_sem, cf123, VlA]
 exact But.fill hw (.cells [.int 3 0, .int 3 0] false) (.cells [.int 3 3, .int 3 n] false)
theorem dnew_spec (T : TbT tbl) {M : Mem} : CallW tbl 87 .nil M fun r M' => (∃ sv, r = .ret sv ∧ SlIs M' sv 2 (VlL [⟨1, 0⟩, ⟨3, 0⟩])) ∧ But (fun _ => False) M M' := by
 refine CallW.wf fun hw => ?_
 refine CallW.intro T.h87 rfl (fr := .leaf) rfl ?_
 simp only [go_sem, cf87]
 refine (integer_spec T.h123 0).use ?_
 rintro r M1 hw1 ⟨rfl, b1⟩
 simp only [go_sem, VlA]
 exact ⟨⟨_, rfl, SlIs.made (X := VlL [⟨1, 0⟩, ⟨3, 0⟩]) (x := [.int 3 1, .int 3 0, .int 3 3, .int 3 0]) (op := false) (by simp [Mem.new]) (by simp [VlL, VlR]) (by intro y hy; simp [VlL, VlR] at hy; rcases hy with rfl | rfl <;> rfl) rfl⟩, b1.trans (But.new hw1 _)⟩
def NoT (G : Hp) (t : Vl) : Prop := ∀ o, t.k = 6 → mayV t = true → G.objs t.n = some o → o.kind = 6 → o.slots = []
theorem check_none (T : TbT tbl) {M : Mem} {sv : AV} (hs : slLen sv = some 0) : CallW tbl 131 (.cons sv .nil) M fun r M' => r = .ret (.bool false) ∧ M' = M := by
 refine CallW.intro T.h131 rfl (fr := .nod (.val .leaf sv .leaf) .leaf) rfl ?_
 simp only [go_sem, cf131]
 have hp : CallW tbl 124 (.cons sv .nil) M fun r M' => r = .ret (.tuple (.cons .nilslice (.cons .nilslice (.cons .nilmap (.cons (.bool false) .nil))))) ∧ M' = M := by
  refine CallW.intro T.h124 rfl (fr := .nod (.val .leaf sv .leaf) .leaf) rfl ?_
  have g : decide ((0 : Int) < 2) = true := rfl
  simp only [go_sem, cf124, hs, g]
  skip
 refine hp.use ?_
 rintro r M1 hw1 ⟨rfl, rfl⟩
 simp only [go_sem]
theorem tnew_spec (T : TbT tbl) {M : Mem} {hp : Pos} {P : Pos → Prop} {G : Hp} (hH : HeapIs M hp P G) (hf : G.free = []) (hn : -(2 ^ 62) ≤ G.next ∧ G.next < 2 ^ 62) :
  CallW tbl 41 (.cons (.ptr hp 0) .nil) M fun r M' => r = .ret (VlA ⟨6, G.next⟩) ∧ HeapIs M' hp P { takeG G with objs := upd (upd G.objs G.next (some ⟨6, 1, [], 0, 0, 0⟩)) G.next (some ⟨6, 1, [⟨1, 0⟩, ⟨3, 0⟩], 0, 0, 0⟩) } ∧ But (fun p => ¬ P p) M M' := by
 refine CallW.wf fun hw => ?_
 refine CallW.intro T.h41 rfl (fr := .nod (.val .leaf (.ptr hp 0) .leaf) .leaf) rfl ?_
 simp only [go_sem, cf41]
 have hH1 := hH.more hw (.cells [.int 3 0, .int 3 0] false)
 have b1 := But.new (S := fun _ => False) hw (.cells [.int 3 0, .int 3 0] false)
 have x1 : (M.new (.cells [.int 3 0, .int 3 0] false)).get M.next = some (.cells [.int 3 0, .int 3 0] false) := by simp only [go_sem]
 refine (make_new T.h48 T.h99 T.h130 (k := 6) hH1 (by omega) hf hn).use ?_
 rintro r M2 hw2 ⟨rfl, hH2, b2⟩
 have x2 := b2.get _ _ (fun e => e (.inr rfl)) x1
 have ne2 := hw2.ne x2
 simp only [go_sem, VlA]
 have b3 := But.fill hw2 (.cells [.int 3 0, .int 3 0] false) (.cells [.int 3 6, .int 3 G.next] false)
 have w3 := hw2.fill (.cells [.int 3 0, .int 3 0] false) (.cells [.int 3 6, .int 3 G.next] false)
 have hH3 := hH2.wide b3 (q := M2.next) (Nat.le_refl _) (by show M2.next.num < M2.next.succ.num; rw [Pos.num_succ]; omega)
 have x3 := b3.get _ _ id x2
 have y3 : ((M2.new (.cells [.int 3 0, .int 3 0] false)).put M2.next (.cells [.int 3 6, .int 3 G.next] false)).get M2.next = some (.cells [.int 3 6, .int 3 G.next] false) := by simp [Mem.put]
 generalize hM3 : (M2.new (.cells [.int 3 0, .int 3 0] false)).put M2.next (.cells [.int 3 6, .int 3 G.next] false) = M3 at *
 refine (dnew_spec T).use ?_
 rintro r M4 hw4 ⟨⟨sv, rfl, hs⟩, b4⟩
 have hH4 := hH3.quiet b4
 have y4 := b4.get _ _ id y3
 have x4 := b4.get _ _ id x3
 simp only [go_sem, y4, y3]
 refine (lay_ok T.h75 T.h76 T.h77 T.h81 T.h85 T.h86 T.h115 T.h117 T.h121 T.h122 T.h143 T.h145 hH4 (o := ⟨6, 1, [], 0, 0, 0⟩) (by simp [upd]) (by decide) hs (by decide) (by
  intro v hv
  simp only [List.mem_cons, List.not_mem_nil, or_false] at hv
  rcases hv with rfl | rfl <;> simp [thereV, mayV, refV])).use ?_
 rintro r M5 hw5 ⟨rfl, hH5, b5⟩
 have y5 := b5.get _ _ (fun e => e (.inr rfl)) y4
 have x5 := b5.get _ _ (fun e => e (.inl (.inr rfl))) x4
 simp only [go_sem, y5, x5]
 have bp : But (fun p => p = M.next) M5 (M5.put M.next (.cells [.int 3 6, .int 3 G.next] false)) := But.put (S := fun p => p = M.next) (p := M.next) _ rfl _
 have hlo : ∀ p, P p → p.num < M.next.num := fun p hp => by obtain ⟨_, _, _, h2, _⟩ := hH; exact (h2 p hp).2
 have hH6 := (hH5.frame (bp.mono fun p e => .inl (.inr e))).less (Q := P) fun p hp => .inl (.inl hp)
 have t1 := (b1.any (fun p => ¬ P p)).trans (b2.mono fun p hn hp => hn (.inl hp))
 have t2 := (t1.trans ((b3.trans b4).any _)).trans (b5.mono fun p hn hp => hn (.inl (.inl hp)))
 exact ⟨hH6, t2.trans (bp.mono fun p e hp => by subst e; have := hlo _ hp; omega)⟩
def Low (G : Hp) : Prop := ∀ n o, G.objs n = some o → o.slots.length ≤ most
theorem slots_no (T : TbT tbl) {M : Mem} {hp : Pos} {P : Pos → Prop} {G : Hp} {t : Vl} (hH : HeapIs M hp P G) (hG : Low G) (ht : NoT G t) :
  CallW tbl 100 (.cons (.ptr hp 0) (.cons (VlA t) .nil)) M fun r M' => r = .ret (.tuple (.cons .nilslice (.cons (.bool false) .nil))) ∧ But (fun _ => False) M M' := by
 refine CallW.wf fun hw => ?_
 obtain ⟨tk, tn⟩ := t
 refine CallW.intro T.h100 rfl (fr := .nod (.val .leaf (.ptr hp 0) .leaf) (.val .leaf (VlA ⟨tk, tn⟩) .leaf)) rfl ?_
 have b1 := But.new (S := fun _ => False) hw (.cells [.int 3 tk, .int 3 tn] false)
 have w1 := hw.new (.cells [.int 3 tk, .int 3 tn] false)
 have x1 : (M.new (.cells [.int 3 tk, .int 3 tn] false)).get M.next = some (.cells [.int 3 tk, .int 3 tn] false) := by simp only [go_sem]
 by_cases hk : tk = 6
 ·subst hk
  have g1 : ((6 : Int) != 6) = false := rfl
  simp only [go_sem, cf100, VlA, g1]
  refine (ref_spec T.h77 T.h117 T.h143 (v := ⟨6, tn⟩)).use ?_
  rintro r M2 hw2 ⟨rfl, b2⟩
  cases hr : refV ⟨6, tn⟩ with
  | false =>
   simp only [go_sem]
   exact b1.trans b2
  | true =>
   have x2 := b2.get _ _ id x1
   have hmay : mayV ⟨6, tn⟩ = true := by simp only [refV, Bool.and_eq_true] at hr; exact hr.2
   simp only [go_sem, x2]
   have hH2 := hH.quiet (b1.trans b2)
   cases ho : G.objs tn with
   | none =>
    refine (obj_none T.h25 T.h75 T.h76 hH2 ho).use ?_
    rintro r M3 hw3 ⟨rfl, b3⟩
    have g3 : ((0 : Int) != 6) = true := rfl
    simp only [go_sem, ObA, g3]
    exact ((b1.trans b2).trans b3).trans (But.fill hw3 (.cells [.int 3 0, .int 3 0, .nilslice, .str 0 0, .int 3 0] false) (.cells [.int 3 0, .int 3 0, .nilslice, .str 0 0, .int 3 0] false))
   | some o =>
    refine (obj_some T.h25 T.h75 T.h76 hH2 ho (hG _ _ ho)).use ?_
    rintro r M3 hw3 ⟨sv, rfl, hfr, b3⟩
    have hcs := hfr.cell
    by_cases hk2 : o.kind = 6
    ·have hse := ht o rfl hmay ho hk2
     have hl0 : slLen sv = some 0 := by rw [hfr.rows.len, hse]; rfl
     have g3 : (o.kind != 6) = false := by simp [hk2]
     have b4 := But.fill hw3 (.cells [.int 3 0, .int 3 0, .nilslice, .str 0 0, .int 3 0] false) (.cells [.int 3 o.kind, .int 3 o.count, sv, .str o.tl o.tn, .int 3 o.mark] false)
     simp only [go_sem, ObA, hcs, g3]
     refine (check_none T hl0).use ?_
     rintro r M5 hw5 ⟨rfl, rfl⟩
     simp only [go_sem]
     exact ((b1.trans b2).trans b3).trans b4
    ·have g3 : (o.kind != 6) = true := by simp [hk2]
     simp only [go_sem, ObA, hcs, g3]
     exact ((b1.trans b2).trans b3).trans (But.fill hw3 (.cells [.int 3 0, .int 3 0, .nilslice, .str 0 0, .int 3 0] false) (.cells [.int 3 o.kind, .int 3 o.count, sv, .str o.tl o.tn, .int 3 o.mark] false))
 ·have g1 : (tk != 6) = true := by simp [hk]
  simp only [go_sem, cf100, VlA, g1]
  exact b1
end Go.Proofs.Ythpnhdopheofcaa
end
section
namespace Go.Proofs.Ythpnhdopheofcaa
open Go.Dx
variable {tbl : Nat → Option CFunc}
section
variable {M : Mem} {hp : Pos} {P : Pos → Prop} {G : Hp} {t : Vl}
theorem told88 (T : TbT tbl) {fn : AV} (hH : HeapIs M hp P G) (hG : Low G) (ht : NoT G t) :
  CallW tbl 88 (.cons (.ptr hp 0) (.cons (VlA t) (.cons fn .nil))) M fun r M' => r = .ret (.tuple (.cons .nilslice (.cons (.int 3 7) .nil))) ∧ But (fun _ => False) M M' := by
 refine CallW.wf fun hw => ?_
 obtain ⟨tk, tn⟩ := t
 refine CallW.intro T.h88 rfl (fr := .nod (.val (.val .leaf fn .leaf) (.ptr hp 0) .leaf) (.val .leaf (VlA ⟨tk, tn⟩) .leaf)) rfl ?_
 have b1 := But.new (S := fun _ => False) hw (.cells [.int 3 tk, .int 3 tn] false)
 simp only [go_sem, cf88, VlA]
 refine (slots_no T (t := ⟨tk, tn⟩) (hH.quiet b1) hG ht).use ?_
 rintro r M2 hw2 ⟨rfl, b2⟩
 simp only [go_sem]
 first | exact b1.trans b2 | exact ⟨rfl, b1.trans b2⟩
theorem told91 (T : TbT tbl) {fn : AV} (hH : HeapIs M hp P G) (hG : Low G) (ht : NoT G t) :
  CallW tbl 91 (.cons (.ptr hp 0) (.cons (VlA t) (.cons fn .nil))) M fun r M' => r = .ret (.tuple (.cons (VlA ⟨0, 0⟩) (.cons (.int 3 7) .nil))) ∧ But (fun _ => False) M M' := by
 refine CallW.wf fun hw => ?_
 obtain ⟨tk, tn⟩ := t
 refine CallW.intro T.h91 rfl (fr := .nod (.val (.val .leaf fn .leaf) (.ptr hp 0) .leaf) (.val .leaf (VlA ⟨tk, tn⟩) .leaf)) rfl ?_
 have b1 := But.new (S := fun _ => False) hw (.cells [.int 3 tk, .int 3 tn] false)
 have w1 := hw.new (.cells [.int 3 tk, .int 3 tn] false)
 have b2 := But.new (S := fun _ => False) w1 (.cells [.int 3 0, .int 3 0] false)
 have x2 : ((M.new (.cells [.int 3 tk, .int 3 tn] false)).new (.cells [.int 3 0, .int 3 0] false)).get M.next.succ = some (.cells [.int 3 0, .int 3 0] false) := by simp only [go_sem]
 simp only [go_sem, cf91, VlA]
 refine (slots_no T (t := ⟨tk, tn⟩) (hH.quiet (b1.trans b2)) hG ht).use ?_
 rintro r M2 hw2 ⟨rfl, b3⟩
 have x3 := b3.get _ _ id x2
 have ne := hw2.ne x3
 simp only [go_sem, x3, ne]
 have b4 := But.new (S := fun _ => False) hw2 (.cells [.int 3 0, .int 3 0] false)
 have bb := (((b1.trans b2).trans b3).trans b4)
 have bf := But.fresh (S := fun _ => False) hw ((bb.any _).trans (But.put (S := fun p => False ∨ M.next.num ≤ p.num) (p := M.next.succ) _ (.inr (by rw [Pos.num_succ]; omega)) (.cells [.int 3 0, .int 3 0] false)))
 first | exact bf | exact ⟨rfl, bf⟩
end
end Go.Proofs.Ythpnhdopheofcaa
end
section
namespace Go.Proofs.Ythpnhdopheofcaa
open Go.Dx
variable {tbl : Nat → Option CFunc}
section
variable {M : Mem} {hp : Pos} {P : Pos → Prop} {G : Hp} {t : Vl}
theorem put_no (T : TbT tbl) {kv vv : Vl} (hH : HeapIs M hp P G) (hG : Low G) (ht : NoT G t) :
  CallW tbl 44 (.cons (.ptr hp 0) (.cons (VlA t) (.cons (VlA kv) (.cons (VlA vv) .nil)))) M fun r M' => r = .ret (.int 3 7) ∧ But (fun _ => False) M M' := by
 refine CallW.wf fun hw => ?_
 obtain ⟨tk, tn⟩ := t
 obtain ⟨kk, kn⟩ := kv
 obtain ⟨vk, vn⟩ := vv
 refine CallW.intro T.h44 rfl (fr := .nod (.val (.val .leaf (VlA ⟨kk, kn⟩) .leaf) (.ptr hp 0) .leaf) (.val (.val .leaf (VlA ⟨vk, vn⟩) .leaf) (VlA ⟨tk, tn⟩) .leaf)) rfl ?_
 have b1 := But.new (S := fun _ => False) hw (.cells [.ptr hp 0] false)
 have w1 := hw.new (.cells [.ptr hp 0] false)
 have b2 := But.new (S := fun _ => False) w1 (.cells [.int 3 tk, .int 3 tn] false)
 have w2 := w1.new (.cells [.int 3 tk, .int 3 tn] false)
 have b3 := But.new (S := fun _ => False) w2 (.cells [.int 3 kk, .int 3 kn] false)
 have w3 := w2.new (.cells [.int 3 kk, .int 3 kn] false)
 have b4 := But.new (S := fun _ => False) w3 (.cells [.int 3 vk, .int 3 vn] false)
 have hb := ((b1.trans b2).trans b3).trans b4
 simp only [go_sem, cf44, VlA]
 refine (told88 T (t := ⟨tk, tn⟩) (hH.quiet hb) hG ht).use ?_
 rintro r M5 hw5 ⟨rfl, b5⟩
 have g7 : ((7 : Int) != 0) = true := rfl
 simp only [go_sem, g7]
 first | exact hb.trans b5 | exact ⟨rfl, hb.trans b5⟩
end
end Go.Proofs.Ythpnhdopheofcaa
end
section
namespace Go.Proofs.Ythpnhdopheofcaa
open Go.Dx
variable {tbl : Nat → Option CFunc}
theorem null43 (h : tbl 43 = some cf43) {M : Mem} : CallW tbl 43 .nil M fun r M' => r = .ret (VlA ⟨1, 0⟩) ∧ But (fun _ => False) M M' := by
 refine CallW.wf fun hw => ?_
 refine CallW.intro h rfl (fr := .leaf) rfl ?_
 simp only [go_sem, cf43, VlA]
 exact But.fill hw (.cells [.int 3 0, .int 3 0] false) (.cells [.int 3 1, .int 3 0] false)
end Go.Proofs.Ythpnhdopheofcaa
end
