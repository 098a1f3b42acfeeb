import Derived.Test.YthpnhdopheofcaaDxWk
import Derived.Test.YthpnhdopheofcaaTg
import Derived.Test.YthpnhdopheofcaaSx
set_option linter.unusedSimpArgs false
set_option linter.unusedVariables false
section
namespace Go.Proofs.Ythpnhdopheofcaa
open Go.Dx
variable {tbl : Nat → Option CFunc}
structure DtG (M : Mem) (own : Own) (tp : Pos) (va vp vg : AV) (arr : List Vl) (prs : List (Vl × Vl)) (gl : List Vl) : Prop where
 inn : own.in M
 tpo : own tp = some (30, 0)
 tpc : M.get tp = some (.cells [va, vp, vg] false)
 arr_ : SlO M own (31, 0) va 2 (VlL arr)
 prs_ : SlO M own (32, 0) vp 2 (flatV prs)
 gon : SlO M own (33, 0) vg 2 (VlL gl)
theorem DtG.setPrs {M M1 : Mem} {own own1 : Own} {tp : Pos} {va vp vg v : AV} {arr gl : List Vl} {prs prs' : List (Vl × Vl)} (h : DtG M own tp va vp vg arr prs gl) (u : OwnUp (32, 0) M M1 own own1) (hb : But (fun p => own p = some (32, 0)) M M1) (hs : SlO M1 own1 (32, 0) v 2 (flatV prs')) :
  DtG (M1.put tp (.cells [va, v, vg] false)) own1 tp va v vg arr prs' gl := by
 have hq := u.old h.tpo
 have kp : ∀ p c t, own1 p = some t → t ≠ (30, 0) → M1.get p = some c → (M1.put tp (.cells [va, v, vg] false)).get p = some c := fun p c t ho ht hp => by
  show (if p = tp then _ else M1.get p) = _
  rw [if_neg fun e => by rw [e, hq] at ho; cases ho; exact ht rfl]
  exact hp
 have k0 : ∀ p c t, own p = some t → t ≠ (32, 0) → M.get p = some c → M1.get p = some c := fun p c t ho ht hp => hb.get p c (fun e => ht (by rw [ho] at e; exact Option.some.inj e)) hp
 exact ⟨u.in_ h.inn hb.next, hq, by simp [Mem.put], h.arr_.keep (fun p c ho hp => kp p c _ (u.old ho) (by simp) (k0 p c _ ho (by simp) hp)) fun p ho => u.old ho,
  hs.keep (fun p c ho hp => kp p c _ ho (by simp) hp) fun _ h => h, h.gon.keep (fun p c ho hp => kp p c _ (u.old ho) (by simp) (k0 p c _ ho (by simp) hp)) fun p ho => u.old ho⟩
theorem DtG.setArr {M M1 : Mem} {own own1 : Own} {tp : Pos} {va vp vg v : AV} {arr arr' gl : List Vl} {prs : List (Vl × Vl)} (h : DtG M own tp va vp vg arr prs gl) (u : OwnUp (31, 0) M M1 own own1) (hb : But (fun p => own p = some (31, 0)) M M1) (hs : SlO M1 own1 (31, 0) v 2 (VlL arr')) :
  DtG (M1.put tp (.cells [v, vp, vg] false)) own1 tp v vp vg arr' prs gl := by
 have hq := u.old h.tpo
 have kp : ∀ p c t, own1 p = some t → t ≠ (30, 0) → M1.get p = some c → (M1.put tp (.cells [v, vp, vg] false)).get p = some c := fun p c t ho ht hp => by
  show (if p = tp then _ else M1.get p) = _
  rw [if_neg fun e => by rw [e, hq] at ho; cases ho; exact ht rfl]
  exact hp
 have k0 : ∀ p c t, own p = some t → t ≠ (31, 0) → M.get p = some c → M1.get p = some c := fun p c t ho ht hp => hb.get p c (fun e => ht (by rw [ho] at e; exact Option.some.inj e)) hp
 exact ⟨u.in_ h.inn hb.next, hq, by simp [Mem.put], hs.keep (fun p c ho hp => kp p c _ ho (by simp) hp) fun _ h => h,
  h.prs_.keep (fun p c ho hp => kp p c _ (u.old ho) (by simp) (k0 p c _ ho (by simp) hp)) fun p ho => u.old ho, h.gon.keep (fun p c ho hp => kp p c _ (u.old ho) (by simp) (k0 p c _ ho (by simp) hp)) fun p ho => u.old ho⟩
theorem DtG.keep {M M' : Mem} {own : Own} {tp : Pos} {va vp vg : AV} {arr gl : List Vl} {prs : List (Vl × Vl)} (h : DtG M own tp va vp vg arr prs gl) (hb : But (fun p => own p = none) M M') : DtG M' own tp va vp vg arr prs gl := by
 have k : ∀ p b t, own p = some t → M.get p = some b → M'.get p = some b := fun p b t ho hp => hb.get p b (by rw [ho]; simp) hp
 have ks : ∀ {t v size L}, SlO M own t v size L → SlO M' own t v size L := fun hs => hs.keep (fun p b ho hp => k p b _ ho hp) fun _ h => h
 exact ⟨Own.in.mono h.inn hb.next, h.tpo, k _ _ _ h.tpo h.tpc, ks h.arr_, ks h.prs_, ks h.gon⟩
theorem DtG.rowArr {M : Mem} {own : Own} {tp p : Pos} {b : MB} {va vp vg : AV} {arr arr' gl : List Vl} {prs : List (Vl × Vl)} (h : DtG M own tp va vp vg arr prs gl) (hq : own p = some (31, 0)) (s : SlO (M.put p b) own (31, 0) va 2 (VlL arr')) : DtG (M.put p b) own tp va vp vg arr' prs gl := by
 have kp : ∀ q c t, own q = some t → t ≠ (31, 0) → M.get q = some c → (M.put p b).get q = some c := fun q c t ho ht hp => by
  show (if q = p then _ else M.get q) = _
  rw [if_neg fun e => by rw [e, hq] at ho; cases ho; exact ht rfl]
  exact hp
 exact ⟨Own.in.mono h.inn (Nat.le_refl _), h.tpo, kp _ _ _ h.tpo (by simp) h.tpc, s, h.prs_.keep (fun q c ho hp => kp q c _ ho (by simp) hp) fun _ h => h, h.gon.keep (fun q c ho hp => kp q c _ ho (by simp) hp) fun _ h => h⟩
theorem DtG.rowPrs {M : Mem} {own : Own} {tp p : Pos} {b : MB} {va vp vg : AV} {arr gl : List Vl} {prs prs' : List (Vl × Vl)} (h : DtG M own tp va vp vg arr prs gl) (hq : own p = some (32, 0)) (s : SlO (M.put p b) own (32, 0) vp 2 (flatV prs')) : DtG (M.put p b) own tp va vp vg arr prs' gl := by
 have kp : ∀ q c t, own q = some t → t ≠ (32, 0) → M.get q = some c → (M.put p b).get q = some c := fun q c t ho ht hp => by
  show (if q = p then _ else M.get q) = _
  rw [if_neg fun e => by rw [e, hq] at ho; cases ho; exact ht rfl]
  exact hp
 exact ⟨Own.in.mono h.inn (Nat.le_refl _), h.tpo, kp _ _ _ h.tpo (by simp) h.tpc, h.arr_.keep (fun q c ho hp => kp q c _ ho (by simp) hp) fun _ h => h, s, h.gon.keep (fun q c ho hp => kp q c _ ho (by simp) hp) fun _ h => h⟩
def Up (M : Mem) (own : Own) (M' : Mem) (own' : Own) : Prop := (∀ p, own p = none → own' p = none ∨ M.next.num ≤ p.num) ∧ But (fun p => own p ≠ none) M M'
theorem Up.quiet {M M' : Mem} {own : Own} (b : But (fun _ => False) M M') : Up M own M' own := ⟨fun p h => .inl h, b.any _⟩
theorem Up.same {M M' : Mem} {own : Own} (b : But (fun p => own p ≠ none) M M') : Up M own M' own := ⟨fun p h => .inl h, b⟩
theorem Up.trans {M M1 M2 : Mem} {own own1 own2 : Own} (hw : M.wf) (h : Up M own M1 own1) (k : Up M1 own1 M2 own2) : Up M own M2 own2 := by
 refine ⟨fun p hp => ?_, But.fresh hw ((h.2.mono fun p e => .inl e).trans (k.2.mono fun p e => ?_))⟩
 ·rcases h.1 p hp with e | e
  ·exact (k.1 p e).imp id fun e' => Nat.le_trans h.2.next e'
  ·exact .inr e
 ·cases ho : own p with
  | none => exact .inr ((h.1 p ho).resolve_left e)
  | some t => exact .inl (by simp)
theorem DtG.setGon {M M1 : Mem} {own own1 : Own} {tp : Pos} {va vp vg v : AV} {arr gl gl' : List Vl} {prs : List (Vl × Vl)} (h : DtG M own tp va vp vg arr prs gl) (u : OwnUp (33, 0) M M1 own own1) (hb : But (fun p => own p = some (33, 0)) M M1) (hs : SlO M1 own1 (33, 0) v 2 (VlL gl')) :
  DtG (M1.put tp (.cells [va, vp, v] false)) own1 tp va vp v arr prs gl' := by
 have hq := u.old h.tpo
 have kp : ∀ p c t, own1 p = some t → t ≠ (30, 0) → M1.get p = some c → (M1.put tp (.cells [va, vp, v] false)).get p = some c := fun p c t ho ht hp => by
  show (if p = tp then _ else M1.get p) = _
  rw [if_neg fun e => by rw [e, hq] at ho; cases ho; exact ht rfl]
  exact hp
 have k0 : ∀ p c t, own p = some t → t ≠ (33, 0) → M.get p = some c → M1.get p = some c := fun p c t ho ht hp => hb.get p c (fun e => ht (by rw [ho] at e; exact Option.some.inj e)) hp
 exact ⟨u.in_ h.inn hb.next, hq, by simp [Mem.put], h.arr_.keep (fun p c ho hp => kp p c _ (u.old ho) (by simp) (k0 p c _ ho (by simp) hp)) fun p ho => u.old ho,
  h.prs_.keep (fun p c ho hp => kp p c _ (u.old ho) (by simp) (k0 p c _ ho (by simp) hp)) fun p ho => u.old ho, hs.keep (fun p c ho hp => kp p c _ ho (by simp) hp) fun _ h => h⟩
theorem take_g (h : tbl 150 = some cf150) {M : Mem} {own : Own} {tp : Pos} {va vp vg : AV} {arr gl : List Vl} {prs : List (Vl × Vl)} {i : Nat} (hB : DtG M own tp va vp vg arr prs gl) (hi : i < prs.length) (hl : prs.length ≤ 2 ^ 20) :
  CallW tbl 150 (.cons (.ptr tp 0) (.cons (.int 3 ((2 * i : Nat) : Int)) .nil)) M fun r M' => r = .ret (.tuple .nil) ∧ (∃ vp', DtG M' own tp va vp' vg arr (takeP prs i) gl) ∧ But (fun p => own p ≠ none) M M' := by
 refine CallW.wf fun hw => ?_
 refine CallW.intro h rfl (fr := .nod (.val .leaf (.ptr tp 0) .leaf) (.val .leaf (.int 3 ((2 * i : Nat) : Int)) .leaf)) rfl ?_
 have hlen : slLen vp = some (2 * prs.length) := by rw [hB.prs_.len, flatV_len]
 have htp := hB.tpc
 have e1 : IntKind.i64.wrap (((2 * prs.length : Nat) : Int) - 2) = ((2 * prs.length - 2 : Nat) : Int) := by rw [wrap64 (by omega) (by omega)]; omega
 obtain ⟨d, s, p, b, p1, p2, p3, p4, ⟨b0, p5⟩, p6⟩ := hB.prs_.copyTail (by omega) (i := 2 * i) (k := 2) (by omega) (by rw [flatV_len]; omega)
 have ed : (flatV prs).length - 2 = 2 * prs.length - 2 := by rw [flatV_len]
 rw [ed] at p2
 have ntp : (tp = p) = False := eq_false fun e => by have := hB.tpo; rw [e, p4] at this; cases this
 have hlen6 : 2 * prs.length - 2 ≤ ((flatV prs).take (2 * i) ++ (flatV prs).drop ((flatV prs).length - 2) ++ (flatV prs).drop (2 * i + 2)).length := by
  simp only [List.length_append, List.length_take, List.length_drop, flatV_len]; omega
 obtain ⟨v7, q7, s7⟩ := p6.take_ (by omega) (k := 2 * prs.length - 2) hlen6
 rw [flatV_takeP hi] at s7
 have hc7 := s7.cell
 have bp : But (fun q => own q = some (32, 0)) M (M.put p b) := But.put (p := p) _ p4 _
 have hB' := hB.setPrs (M1 := M.put p b) (own1 := own) (OwnUp.refl _ _ _ _) bp s7
 simp only [go_sem, cf150, htp, hlen, e1, p1, p2, p3, ntp, q7, hc7]
 exact ⟨⟨v7, hB'⟩, (bp.mono fun q e => by rw [e]; simp).trans (But.put (p := tp) _ (by rw [hB.tpo]; simp) _)⟩
end Go.Proofs.Ythpnhdopheofcaa
end
section
namespace Go.Proofs.Ythpnhdopheofcaa
open Go.Dx
variable {tbl : Nat → Option CFunc}
theorem leave_g (h : tbl 149 = some cf149) (h77 : tbl 77 = some cf77) (h117 : tbl 117 = some cf117) (h143 : tbl 143 = some cf143) {M : Mem} {own : Own} {tp : Pos} {va vp vg : AV} {arr gl : List Vl} {prs : List (Vl × Vl)} {sv : AV} {l : List Vl} (hB : DtG M own tp va vp vg arr prs gl) (hs : SlIs M sv 2 (VlL l)) (hd : ∀ p o n, slAt sv = some (p, o, n) → own p = none) (hl : l.length + gl.length ≤ 2 ^ 20) :
  CallW tbl 149 (.cons (.ptr tp 0) (.cons sv .nil)) M fun r M' => r = .ret (.tuple .nil) ∧ ∃ own' vg', DtG M' own' tp va vp vg' arr prs (gl ++ l.filter refV) ∧ Up M own M' own' := by
 refine CallW.wf fun hw => ?_
 refine CallW.intro h rfl (fr := .nod (.val .leaf (.ptr tp 0) .leaf) (.val .leaf sv .leaf)) rfl ?_
 have hlen := hs.len
 rw [vlL_len] at hlen
 simp only [go_sem, cf149, hlen]
 refine loop_wp (I := fun n fr M' => ∃ j : Nat, n + j = l.length ∧ M'.wf ∧ (∃ own' vg', DtG M' own' tp va vp vg' arr prs (gl ++ (l.take j).filter refV) ∧ Up M own M' own') ∧ fr.get (.o .h) = some (.ptr tp 0) ∧ fr.get (.o (.o (.o .h))) = some sv ∧ fr.get (.i (.o (.o .h))) = some (.int 3 l.length) ∧ fr.get (.o (.i (.o .h))) = some (.int 3 j)) (n := l.length) ?_ ?_
 ·exact ⟨0, rfl, hw, ⟨own, vg, by simpa using hB, Up.quiet (But.refl _ _)⟩, rfl, rfl, rfl, rfl⟩
 ·rintro n fr M' ⟨j, i0, i1, ⟨own1, vg1, i2, i3⟩, f0, f1, f3, f4⟩
  cases n with
  | zero =>
   have g1 : decide ((j : Int) < (l.length : Int)) = false := by simp only [decide_eq_false_iff_not]; omega
   have e : l.take j = l := List.take_of_length_le (by omega)
   rw [e] at i2
   simp only [go_sem, f0, f1, f3, f4, g1]
   exact ⟨own1, vg1, i2, i3⟩
  | succ n =>
   have g1 : decide ((j : Int) < (l.length : Int)) = true := by simp only [decide_eq_true_eq]; omega
   have hi : j < l.length := by omega
   have hs' : SlIs M' sv 2 (VlL l) := by
    by_cases hne : VlL l = []
    ·rw [hne]; exact ⟨by rw [hlen]; have := congrArg List.length hne; simp [vlL_len] at this; rw [this]; rfl, fun x hx => (by cases hx), fun h => absurd rfl h⟩
    ·exact hs.but i3.2 fun p o n hp e => e (hd p o n hp)
   obtain ⟨p, po, a1, a2⟩ := vl_at hs' hi
   have et : l.take (j + 1) = l.take j ++ [l[j]] := List.take_succ_eq_append_getElem hi
   have hfl : ((l.take j).filter refV).length ≤ l.length := Nat.le_trans (List.length_filter_le _ _) (by rw [List.length_take]; omega)
   generalize l[j] = v at *
   obtain ⟨vk, vn⟩ := v
   have b1 := But.fill i1 (.cells [.int 3 0, .int 3 0] false) (.cells [.int 3 vk, .int 3 vn] false)
   have w1 := i1.fill (.cells [.int 3 0, .int 3 0] false) (.cells [.int 3 vk, .int 3 vn] false)
   have x1 : ((M'.new (.cells [.int 3 0, .int 3 0] false)).put M'.next (.cells [.int 3 vk, .int 3 vn] false)).get M'.next = some (.cells [.int 3 vk, .int 3 vn] false) := by simp [Mem.put]
   simp only [go_sem, f0, f1, f3, f4, g1, a1, a2, hi]
   refine (ref_spec h77 h117 h143 (v := ⟨vk, vn⟩)).use ?_
   rintro r M2 hw2 ⟨rfl, b2⟩
   have x2 := b2.get _ _ id x1
   have b12 := b1.trans b2
   have e1 : IntKind.i64.wrap ((j : Int) + 1) = ((j + 1 : Nat) : Int) := by rw [wrap64 (by omega) (by omega)]; omega
   have hB2 := i2.keep (b12.any _)
   have U2 := i3.trans hw (Up.quiet b12)
   cases hv : refV ⟨vk, vn⟩ with
   | false =>
    simp only [go_sem, f0, f1, f3, f4, e1]
    refine ⟨n, by omega, j + 1, by omega, hw2, ⟨own1, vg1, ?_, U2⟩, by simp [Tr.get_set, f0], by simp [Tr.get_set, f1], by simp [Tr.get_set, f3], by simp [Tr.get_set]⟩
    rw [et, List.filter_append, List.filter_cons_of_neg (by rw [hv]; decide), List.filter_nil, List.append_nil]
    exact hB2
   | true =>
    have ht2 := hB2.tpc
    obtain ⟨v3, M3, own3, p3, s3, u3, b3, w3⟩ := hB2.gon.push_ hw2 hB2.inn (n := 1) (c := 1) (X := [VlR ⟨vk, vn⟩]) (x := [.int 3 vk, .int 3 vn]) rfl rfl (by simp [VlR, isCell]) (by omega) (by rw [vlL_len, List.length_append]; simp only [most, List.length_cons, List.length_nil]; omega)
    have hs3 : VlL (gl ++ (l.take j).filter refV) ++ [VlR ⟨vk, vn⟩] = VlL (gl ++ (l.take (j + 1)).filter refV) := by
     rw [et, List.filter_append, List.filter_cons_of_pos hv, List.filter_nil]
     simp [VlL]
    rw [hs3] at s3
    have hc3 := s3.cell
    have hB3 := hB2.setGon u3 b3 s3
    have ht3 := b3.get _ _ (fun e => by rw [hB2.tpo] at e; simp at e) hB2.tpc
    simp only [go_sem, f0, f1, f3, f4, ht2, x2, p3, hc3, ht3, e1]
    refine ⟨n, by omega, j + 1, by omega, w3.put ht3 _, ⟨own3, v3, hB3, U2.trans hw ⟨fun p hp => ?_, (b3.mono fun p e => by rw [e]; simp).trans (But.put (p := tp) _ (by rw [hB2.tpo]; simp) _)⟩⟩, by simp [Tr.get_set, f0], by simp [Tr.get_set, f1], by simp [Tr.get_set, f3], by simp [Tr.get_set]⟩
    rcases u3 p with e | ⟨_, _, e, _⟩
    ·left; rw [e, hp]
    ·right; exact e
end Go.Proofs.Ythpnhdopheofcaa
end
section
namespace Go.Proofs.Ythpnhdopheofcaa
open Go.Dx
variable {tbl : Nat → Option CFunc}
theorem lay_g (D : DcT tbl) (h147 : tbl 147 = some cf147) (h149 : tbl 149 = some cf149) (h77 : tbl 77 = some cf77) {M : Mem} {own : Own} {tp : Pos} {va vp vg : AV} {arr gl : List Vl} {prs : List (Vl × Vl)} {i : Nat} {v : Vl} (hB : DtG M own tp va vp vg arr prs gl) (hi : i < arr.length) (hl : arr.length ≤ 2 ^ 20) (hgl : gl.length ≤ 2 ^ 10) :
  CallW tbl 147 (.cons (.ptr tp 0) (.cons (.int 3 (i : Int)) (.cons (VlA v) .nil))) M fun r M' => r = .ret (.tuple .nil) ∧ ∃ own' va' vg', DtG M' own' tp va' vp vg' (layV arr i v) prs (gl ++ [arr[i]].filter refV) ∧ Up M own M' own' := by
 refine CallW.wf fun hw => ?_
 obtain ⟨vk, vn⟩ := v
 refine CallW.intro h147 rfl (fr := .nod (.val (.val .leaf (VlA ⟨vk, vn⟩) .leaf) (.ptr tp 0) .leaf) (.val .leaf (.int 3 (i : Int)) .leaf)) rfl ?_
 have b1 := But.new (S := fun _ => False) hw (.cells [.int 3 vk, .int 3 vn] false)
 have w1 := hw.new (.cells [.int 3 vk, .int 3 vn] false)
 have x1 : (M.new (.cells [.int 3 vk, .int 3 vn] false)).get M.next = some (.cells [.int 3 vk, .int 3 vn] false) := by simp only [go_sem]
 have hB1 := hB.keep (b1.any _)
 have htp := hB.tpc
 have ne1 := hw.ne htp
 have hlen : slLen va = some arr.length := by rw [hB.arr_.len, vlL_len]
 obtain ⟨p, po, a1, a2⟩ := vl_at hB.arr_.rows hi
 have hbp : ∃ bp, M.get p = some bp := by
  cases hx : M.get p with
  | none => rw [hx] at a2; cases a2
  | some bp => exact ⟨bp, rfl⟩
 obtain ⟨bp, hbp⟩ := hbp
 have ne2 := hw.ne hbp
 have hnx : (M.new (.cells [.int 3 vk, .int 3 vn] false)).next = M.next.succ := rfl
 simp only [go_sem, cf147, VlA, htp, ne1, a1, a2, ne2, hi]
 generalize hM1 : M.new (.cells [.int 3 vk, .int 3 vn] false) = M1 at *
 have b2 := But.new (S := fun _ => False) w1 (.cells [.int 3 arr[i].k, .int 3 arr[i].n] false)
 have hs2 : SlIs (M1.new (.cells [.int 3 arr[i].k, .int 3 arr[i].n] false)) (.slice M1.next 0 1 1) 2 (VlL [arr[i]]) := SlIs.made (X := VlL [arr[i]]) (x := [.int 3 arr[i].k, .int 3 arr[i].n]) (op := false) (by simp [Mem.new]) (by simp [VlL, VlR]) (by intro y hy; simp [VlL, VlR] at hy; subst hy; rfl) rfl
 rw [hnx] at hs2
 have on : ∀ q : Pos, M.next.num ≤ q.num → own q = none := fun q hq => by
  cases h : own q with
  | none => rfl
  | some t => have := hB.inn q (by rw [h]; simp); omega
 refine (leave_g h149 h77 D.h117 D.h143 (hB1.keep (b2.any _)) hs2 (fun q o n e => by cases e; exact on _ (by rw [Pos.num_succ]; omega)) (by simp only [List.length_singleton]; omega)).use ?_
 rintro r M2 hw2 ⟨rfl, own2, vg2, hB2, U2⟩
 have U02 := (Up.quiet (own := own) (b1.trans b2)).trans hw U2
 have x2 := U2.2.get _ _ (fun e => e (on _ (Nat.le_refl _))) (b2.get _ _ id x1)
 have htp2 := hB2.tpc
 have a1' := a1
 obtain ⟨b, st, hq, ⟨b0, hb0⟩, s4⟩ := hB2.arr_.set_ (i := i) (by rw [vlL_len]; exact hi) (x := [.int 3 vk, .int 3 vn]) rfl rfl a1
 rw [Mem.store_eq] at st
 have ntp : (tp = p) = False := eq_false fun e => by have := hB2.tpo; rw [e, hq] at this; cases this
 have hrow : (VlL arr).set i [.int 3 vk, .int 3 vn] = VlL (arr.set i ⟨vk, vn⟩) := by simp [VlL, VlR, List.map_set]
 rw [hrow] at s4
 have hB3 := hB2.rowArr hq s4
 have hlen3 : slLen va = some arr.length := hlen
 have e1 : IntKind.i64.wrap ((arr.length : Int) - 1) = ((arr.length - 1 : Nat) : Int) := by rw [wrap64 (by omega) (by omega)]; omega
 have bp : But (fun q => own2 q ≠ none) M2 (M2.put p b) := But.put (p := p) _ (by rw [hq]; simp) _
 have w3 : (M2.put p b).wf := hw2.put hb0 b
 have U3 := U02.trans hw (Up.same bp)
 by_cases hlt : i + 1 < arr.length
 ·have g : decide ((i : Int) < ((arr.length - 1 : Nat) : Int)) = true := by simp only [decide_eq_true_eq]; omega
  have hlay : layV arr i ⟨vk, vn⟩ = arr.set i ⟨vk, vn⟩ := by simp only [layV, if_pos hlt]
  simp only [go_sem, htp2, a1, hi, x2, st, ntp, hlen, e1, g]
  rw [hlay]
  exact ⟨own2, va, vg2, hB3, U3⟩
 ·have g : decide ((i : Int) < ((arr.length - 1 : Nat) : Int)) = false := by simp only [decide_eq_false_iff_not]; omega
  have hlay : layV arr i ⟨vk, vn⟩ = trimF arr.length (arr.set i ⟨vk, vn⟩) := by simp only [layV, if_neg hlt]
  simp only [go_sem, htp2, a1, hi, x2, st, ntp, hlen, e1, g]
  refine loop_wp (I := fun n fr M' => M'.wf ∧ n ≤ arr.length ∧ (∃ va' arr', DtG M' own2 tp va' vp vg2 arr' prs (gl ++ [arr[i]].filter refV) ∧ arr'.length = n ∧ trimF n arr' = trimF arr.length (arr.set i ⟨vk, vn⟩)) ∧ But (fun q => own2 q ≠ none) (M2.put p b) M' ∧ fr.get (.o .h) = some (.ptr tp 0)) (n := arr.length) ?_ ?_
  ·exact ⟨w3, Nat.le_refl _, ⟨va, _, hB3, by rw [List.length_set], rfl⟩, But.refl _ _, rfl⟩
  ·rintro n fr M' ⟨i1, i2, ⟨va', arr', i3, i4, i5⟩, i6, f1⟩
   have ht := i3.tpc
   have hl' : slLen va' = some n := by rw [i3.arr_.len, vlL_len, i4]
   cases n with
   | zero =>
    have g0 : decide ((0 : Int) < ((0 : Nat) : Int)) = false := rfl
    simp only [go_sem, f1, ht, hl', g0]
    rw [hlay, ← i5]
    exact ⟨own2, va', vg2, i3, U3.trans hw (Up.same i6)⟩
   | succ n =>
    have g0 : decide ((0 : Int) < ((n + 1 : Nat) : Int)) = true := by simp only [decide_eq_true_eq]; omega
    have e2 : IntKind.i64.wrap (((n + 1 : Nat) : Int) - 1) = (n : Int) := by rw [wrap64 (by omega) (by omega)]; omega
    have hn : n < arr'.length := by omega
    obtain ⟨q', qo', c1, c2⟩ := vl_at i3.arr_.rows hn
    rw [i4] at c1
    have g3 : n < n + 1 := by omega
    have hlast : arr'.getLast? = some arr'[n] := by rw [List.getLast?_eq_getElem?, i4]; exact List.getElem?_eq_getElem hn
    simp only [go_sem, f1, ht, hl', g0, e2, c1, c2, g3]
    refine (null_spec' D.h129 arr'[n]).use ?_
    rintro r M5 hw5 ⟨rfl, b5⟩
    have hB5 := i3.keep (b5.any _)
    have ht5 := hB5.tpc
    simp only [trimF, hlast] at i5
    cases hv : nullV arr'[n] with
    | true =>
     rw [hv] at i5
     simp only [if_true] at i5
     obtain ⟨v7, q7, s7⟩ := hB5.arr_.take_ (by omega) (k := n) (by rw [vlL_len]; omega)
     have hc7 := s7.cell
     have hdl : (VlL arr').take n = VlL arr'.dropLast := by rw [List.dropLast_eq_take, i4]; simp [VlL, List.map_take]
     rw [hdl] at s7
     have hB6 := hB5.setArr (M1 := M5) (own1 := own2) (OwnUp.refl _ _ _ _) (But.refl _ _) s7
     simp only [go_sem, f1, ht5, hl', e2, q7, hc7]
     exact ⟨n, by omega, hw5.put ht5 _, by omega, ⟨v7, _, hB6, by rw [List.length_dropLast]; omega, i5⟩, (i6.trans (b5.any _)).trans (But.put (p := tp) _ (by rw [hB5.tpo]; simp) _), by simp [Tr.get_set, f1]⟩
    | false =>
     rw [hv] at i5
     simp only [Bool.false_eq_true, if_false] at i5
     simp only [go_sem, f1]
     rw [hlay, ← i5]
     exact ⟨own2, va', vg2, hB5, U3.trans hw (Up.same (i6.trans (b5.any _)))⟩
end Go.Proofs.Ythpnhdopheofcaa
end
section
namespace Go.Proofs.Ythpnhdopheofcaa
open Go.Dx
variable {tbl : Nat → Option CFunc}
theorem grow_g (D : DcT tbl) (h151 : tbl 151 = some cf151) (h150 : tbl 150 = some cf150) (h148 : tbl 148 = some cf148) (h123 : tbl 123 = some cf123) {M : Mem} {own : Own} {tp : Pos} {va vp vg : AV} {arr gl : List Vl} {prs : List (Vl × Vl)} {v : Vl} (hB : DtG M own tp va vp vg arr prs gl) (hl : arr.length + prs.length ≤ 2 ^ 19) :
  CallW tbl 151 (.cons (.ptr tp 0) (.cons (VlA v) .nil)) M fun r M' => r = .ret (.tuple .nil) ∧ (∃ own' va' vp', DtG M' own' tp va' vp' vg (growF prs.length (arr ++ [v]) prs).1 (growF prs.length (arr ++ [v]) prs).2 gl ∧ ∀ p, own p = none → own' p = none ∨ M.next.num ≤ p.num) ∧ But (fun p => own p ≠ none) M M' := by
 refine CallW.wf fun hw => ?_
 obtain ⟨vk, vn⟩ := v
 refine CallW.intro h151 rfl (fr := .nod (.val .leaf (.ptr tp 0) .leaf) (.val .leaf (VlA ⟨vk, vn⟩) .leaf)) rfl ?_
 have htp := hB.tpc
 have ne1 := hw.ne htp
 have b1 := But.new (S := fun _ => False) hw (.cells [.int 3 vk, .int 3 vn] false)
 have w1 := hw.new (.cells [.int 3 vk, .int 3 vn] false)
 have hB1 := hB.keep (b1.any _)
 obtain ⟨v3, M3, own3, p3, s3, u3, b3, w3⟩ := hB1.arr_.push_ w1 hB1.inn (n := 1) (c := 1) (X := [VlR ⟨vk, vn⟩]) (x := [.int 3 vk, .int 3 vn]) rfl rfl (by simp [VlR, isCell]) (by omega) (by rw [vlL_len]; simp only [most, List.length_cons, List.length_nil]; omega)
 have p3' : appO (({ next := M.next.succ.succ, get := (M.new (.cells [.int 3 vk, .int 3 vn] false)).get } : Mem).put M.next.succ (.cells [.int 3 vk, .int 3 vn] false)) 2 va (.slice M.next.succ 0 1 1) = some (v3, M3) := p3
 have hc3 := s3.cell
 have hs3 : VlL arr ++ [VlR ⟨vk, vn⟩] = VlL (arr ++ [⟨vk, vn⟩]) := by simp [VlL]
 rw [hs3] at s3
 have hB3 := hB1.setArr u3 b3 s3
 have htp3 := b3.get _ _ (fun e => by rw [hB1.tpo] at e; simp at e) hB1.tpc
 have hl3 : slLen v3 = some (arr.length + 1) := by rw [s3.len, vlL_len, List.length_append]; rfl
 have e1 : IntKind.i64.wrap (((arr.length + 1 : Nat) : Int) + 1) = ((arr.length + 1 : Nat) : Int) + 1 := wrap64 (by omega) (by omega)
 have hw4 : (M3.put tp (.cells [v3, vp, vg] false)).wf := w3.put htp3 _
 have hown3 : ∀ p, own p = none → own3 p = none ∨ M.next.num ≤ p.num := fun p hp => by
  rcases u3 p with e | ⟨_, _, e, _⟩
  ·left; rw [e, hp]
  ·right; exact Nat.le_trans b1.next e
 have wid : ∀ (own' : Own) (A B : Mem), (∀ p, own p = none → own' p = none ∨ M.next.num ≤ p.num) → But (fun p => own' p ≠ none) A B → But (fun p => own p ≠ none ∨ M.next.num ≤ p.num) A B := fun own' A B h hb => hb.mono fun p hp => by
  cases ho : own p with
  | none => exact .inr ((h p ho).resolve_left hp)
  | some t => exact .inl (by simp)
 have bb4 : But (fun p => own p ≠ none ∨ M.next.num ≤ p.num) M (M3.put tp (.cells [v3, vp, vg] false)) :=
  ((b1.any _).trans (b3.mono fun p e => .inl (by rw [e]; simp))).trans (But.put (p := tp) _ (.inl (by rw [hB.tpo]; simp)) _)
 simp only [go_sem, cf151, VlA, htp, ne1, p3', hc3, htp3, hl3, e1]
 refine (integer_spec h123 _).use ?_
 rintro r M5 hw5 ⟨rfl, b5⟩
 have hB5 := hB3.keep (b5.any _)
 simp only [go_sem]
 refine (find_spec (l := prs) (k := ⟨3, ((arr.length + 1 : Nat) : Int) + 1⟩) h148 (by omega) hB5.tpc hB5.prs_.rows).use ?_
 rintro r M6 hw6 ⟨rfl, b6⟩
 have hB6 := hB5.keep (b6.any _)
 simp only [go_sem]
 refine loop_wp (I := fun n fr M' => M'.wf ∧ (∃ own' va' vp' arr' prs', DtG M' own' tp va' vp' vg arr' prs' gl ∧ prs'.length = n ∧ arr'.length + prs'.length ≤ 2 ^ 19 + 1 ∧ growF n arr' prs' = growF prs.length (arr ++ [⟨vk, vn⟩]) prs ∧ (∀ p, own p = none → own' p = none ∨ M.next.num ≤ p.num) ∧ fr.get (.o (.i .h)) = some (.int 3 (posI prs' ⟨3, (arr'.length : Int) + 1⟩))) ∧ But (fun p => own p ≠ none ∨ M.next.num ≤ p.num) M M' ∧ fr.get (.o .h) = some (.ptr tp 0)) (n := prs.length) ?_ ?_
 ·refine ⟨hw6, ⟨own3, v3, vp, _, prs, hB6, rfl, by simp only [List.length_append, List.length_cons, List.length_nil]; omega, rfl, hown3, ?_⟩, bb4.trans ((b5.trans b6).any _), rfl⟩
  simp only [List.length_append, List.length_cons, List.length_nil]
  rfl
 ·rintro n fr M' ⟨i1, ⟨own', va', vp', arr', prs', i2, i3, i4, i5, i6, f2⟩, i7, f1⟩
  cases hpos : posP prs' ⟨3, (arr'.length : Int) + 1⟩ with
  | none =>
   have hpi : posI prs' ⟨3, (arr'.length : Int) + 1⟩ = -1 := by simp only [posI, hpos]
   have hg : growF n arr' prs' = (arr', prs') := by cases n <;> simp [growF, hpos]
   have g : decide ((0 : Int) ≤ -1) = false := rfl
   rw [hpi] at f2
   simp only [go_sem, f1, f2, g]
   rw [← i5, hg]
   exact ⟨⟨own', va', vp', i2, i6⟩, But.fresh hw i7⟩
  | some j =>
   have hj := posP_lt hpos
   cases n with
   | zero => omega
   | succ m =>
    have hpi : posI prs' ⟨3, (arr'.length : Int) + 1⟩ = ((2 * j : Nat) : Int) := by simp only [posI, hpos]
    rw [hpi] at f2
    have g : decide ((0 : Int) ≤ ((2 * j : Nat) : Int)) = true := by simp only [decide_eq_true_eq]; omega
    have ht := i2.tpc
    have hfl : (flatP prs').length = 2 * prs'.length := flatP_len _
    have l2 : slLen vp' = some (2 * prs'.length) := by rw [i2.prs_.len, flatV_len]
    obtain ⟨q, qo, a1, a2⟩ := vl_at i2.prs_.rows (i := 2 * j + 1) (by omega)
    rw [hfl] at a1
    have k2 := flatP_val prs' hj
    rw [List.getElem?_eq_getElem (by omega)] at k2
    rw [Option.some.inj k2] at a2
    have hgv : growF (m + 1) arr' prs' = growF m (arr' ++ [prs'[j].2]) (takeP prs' j) := by simp only [growF, hpos, List.getElem?_eq_getElem hj, Option.map_some, Option.getD_some]
    generalize prs'[j].2 = y at *
    obtain ⟨yk, yn⟩ := y
    have g3 : 2 * j + 1 < 2 * prs'.length := by omega
    have e7 : IntKind.i64.wrap (((2 * j : Nat) : Int) + 1) = ((2 * j + 1 : Nat) : Int) := by rw [wrap64 (by omega) (by omega)]; omega
    obtain ⟨v7, M7, own7, p7, s7, u7, b7, w7⟩ := i2.arr_.push_ i1 i2.inn (n := 1) (c := 1) (X := [VlR ⟨yk, yn⟩]) (x := [.int 3 yk, .int 3 yn]) rfl rfl (by simp [VlR, isCell]) (by omega) (by rw [vlL_len]; simp only [most, List.length_cons, List.length_nil]; omega)
    have p7' : appO (({ next := M'.next.succ, get := M'.get } : Mem).put M'.next (.cells [.int 3 yk, .int 3 yn] false)) 2 va' (.slice M'.next 0 1 1) = some (v7, M7) := p7
    have hs7 : VlL arr' ++ [VlR ⟨yk, yn⟩] = VlL (arr' ++ [⟨yk, yn⟩]) := by simp [VlL]
    rw [hs7] at s7
    have hc7 := s7.cell
    have hB7 := i2.setArr u7 b7 s7
    have ht7 := b7.get _ _ (fun e => by rw [i2.tpo] at e; simp at e) ht
    have hn7 := i7.next
    have hown7 : ∀ p, own p = none → own7 p = none ∨ M.next.num ≤ p.num := fun p hp => by
     rcases i6 p hp with e | e
     ·rcases u7 p with e' | ⟨_, _, e', _⟩
      ·left; rw [e', e]
      ·right; exact Nat.le_trans hn7 e'
     ·exact .inr e
    simp only [go_sem, f1, f2, g, ht, l2, e7, a1, a2, g3, p7, p7', hc7, ht7]
    refine (take_g h150 hB7 hj (by omega)).use ?_
    rintro r M8 hw8 ⟨rfl, ⟨vp8, hB8⟩, b8⟩
    have ht8 := hB8.tpc
    have l8 : slLen v7 = some (arr'.length + 1) := by rw [s7.len, vlL_len, List.length_append]; rfl
    have e8 : IntKind.i64.wrap (((arr'.length + 1 : Nat) : Int) + 1) = ((arr'.length + 1 : Nat) : Int) + 1 := wrap64 (by omega) (by omega)
    simp only [go_sem, f1, ht8, l8, e8]
    refine (integer_spec h123 _).use ?_
    rintro r M9 hw9 ⟨rfl, b9⟩
    have hB9 := hB8.keep (b9.any _)
    simp only [go_sem, f1]
    refine (find_spec (l := takeP prs' j) (k := ⟨3, ((arr'.length + 1 : Nat) : Int) + 1⟩) h148 (by rw [takeP_len hj]; omega) hB9.tpc hB9.prs_.rows).use ?_
    rintro r M10 hw10 ⟨rfl, b10⟩
    have hB10 := hB9.keep (b10.any _)
    simp only [go_sem, f1]
    have bb7 : But (fun p => own p ≠ none ∨ M.next.num ≤ p.num) M' M10 :=
     (((wid own' _ _ i6 (b7.mono fun p e => by rw [e]; simp)).trans (But.put (p := tp) _ (.inl (by rw [hB.tpo]; simp)) _)).trans (wid own7 _ _ hown7 b8)).trans ((b9.trans b10).any _)
    refine ⟨m, by omega, hw10, ⟨own7, v7, vp8, arr' ++ [⟨yk, yn⟩], takeP prs' j, hB10, by rw [takeP_len hj]; omega, by rw [takeP_len hj, List.length_append]; show _ + 1 + _ ≤ _; omega, by rw [← hgv]; exact i5, hown7, ?_⟩, i7.trans bb7, by simp [Tr.get_set, f1]⟩
    rw [List.length_append, Tr.get_set]
    rfl
end Go.Proofs.Ythpnhdopheofcaa
end
section
namespace Go.Proofs.Ythpnhdopheofcaa
open Go.Dx
variable {tbl : Nat → Option CFunc}
def goneT (arr : List Vl) (prs : List (Vl × Vl)) (k v : Vl) : List Vl :=
 if placedV k arr.length = true then ((arr[k.n.toNat - 1]?).toList).filter refV
 else match posP prs k with
  | some j => if nullV v = true then ([((prs[j]?).map (·.2)).getD ⟨1, 0⟩, ((prs[j]?).map (·.1)).getD ⟨1, 0⟩, k]).filter refV else ([((prs[j]?).map (·.2)).getD ⟨1, 0⟩, k]).filter refV
  | none => if nullV v = true then [k].filter refV else []
def PutG (M : Mem) (own : Own) (tp : Pos) (X : List Vl × List (Vl × Vl)) (gl : List Vl) (r : CR) (M' : Mem) : Prop :=
 r = .ret (.tuple .nil) ∧ ∃ own' va' vp' vg', DtG M' own' tp va' vp' vg' X.1 X.2 gl ∧ Up M own M' own'
theorem put_ag (D : PutT tbl) {M : Mem} {own : Own} {tp pk pv : Pos} {va vp vg : AV} {arr gl : List Vl} {prs : List (Vl × Vl)} {k v : Vl} {fr : Tr AV} {j : Nat} {M0 : Mem} (hw0 : M0.wf) (b0 : But (fun _ => False) M0 M) (hw : M.wf) (hB : DtG M own tp va vp vg arr prs gl) (hl : arr.length + prs.length ≤ 2 ^ 19)
  (hgl : gl.length ≤ 2 ^ 10) (f1 : fr.get (.o .h) = some (.ptr tp 0)) (f2 : fr.get (.o (.i .h)) = some (.ptr pk 0)) (f3 : fr.get (.i (.i .h)) = some (.ptr pv 0)) (f4 : fr.get (.o (.o (.o .h))) = some (.int 3 ((2 * j : Nat) : Int)))
  (xk : M.get pk = some (.cells [.int 3 k.k, .int 3 k.n] false)) (xv : M.get pv = some (.cells [.int 3 v.k, .int 3 v.n] false)) (ok : own pk = none) (ov : own pv = none) (hj : j < prs.length) (hv : nullV v = true) :
  CCode.wp tbl (seqTail 3 cf126.body) fr M (finW cf126.results (PutG M0 own tp (arr, takeP prs j) (gl ++ [prs[j].2, prs[j].1, k].filter refV))) := by
 obtain ⟨vk, vn⟩ := v
 obtain ⟨kk, kn⟩ := k
 have g : decide ((0 : Int) ≤ ((2 * j : Nat) : Int)) = true := by simp only [decide_eq_true_eq]; omega
 simp only [go_sem, cf126, seqTail, f1, f2, f3, f4, g, xv]
 refine (null_spec' D.h129 ⟨vk, vn⟩).use ?_
 rintro r M1 hw1 ⟨rfl, b1⟩
 rw [hv]
 have hB1 := hB.keep (b1.any _)
 have ht1 := hB1.tpc
 have xk1 := b1.get _ _ id xk
 have l2 : slLen vp = some (2 * prs.length) := by rw [hB.prs_.len, flatV_len]
 have hfl : (flatP prs).length = 2 * prs.length := flatP_len _
 have e7 : IntKind.i64.wrap (((2 * j : Nat) : Int) + 1) = ((2 * j + 1 : Nat) : Int) := by rw [wrap64 (by omega) (by omega)]; omega
 obtain ⟨q, qo, a1, a2⟩ := vl_at hB1.prs_.rows (i := 2 * j) (by omega)
 obtain ⟨q', qo', a1', a3⟩ := vl_at hB1.prs_.rows (i := 2 * j + 1) (by omega)
 rw [a1] at a1'
 cases a1'
 rw [hfl] at a1
 have k1 := flatP_key prs hj
 rw [List.getElem?_eq_getElem (by omega)] at k1
 rw [Option.some.inj k1] at a2
 have k2 := flatP_val prs hj
 rw [List.getElem?_eq_getElem (by omega)] at k2
 rw [Option.some.inj k2] at a3
 generalize prs[j] = x at *
 obtain ⟨⟨yk, yn⟩, ⟨zk, zn⟩⟩ := x
 have g3 : 2 * j + 1 < 2 * prs.length := by omega
 have g4 : 2 * j < 2 * prs.length := by omega
 simp only [go_sem, f1, f2, f4, ht1, l2, e7, a1, a2, a3, g3, g4, xk1]
 have b2 := But.new (S := fun _ => False) hw1 (.cells [.int 3 zk, .int 3 zn, .int 3 yk, .int 3 yn, .int 3 kk, .int 3 kn] false)
 have hs2 : SlIs (M1.new (.cells [.int 3 zk, .int 3 zn, .int 3 yk, .int 3 yn, .int 3 kk, .int 3 kn] false)) (.slice M1.next 0 3 3) 2 (VlL [⟨zk, zn⟩, ⟨yk, yn⟩, ⟨kk, kn⟩]) := SlIs.made (X := VlL [⟨zk, zn⟩, ⟨yk, yn⟩, ⟨kk, kn⟩]) (x := [.int 3 zk, .int 3 zn, .int 3 yk, .int 3 yn, .int 3 kk, .int 3 kn]) (op := false) (by simp [Mem.new]) (by simp [VlL, VlR]) (by intro y hy; simp [VlL, VlR] at hy; rcases hy with rfl | rfl | rfl <;> rfl) rfl
 have on : ∀ q : Pos, M1.next.num ≤ q.num → own q = none := fun q hq => by
  cases h : own q with
  | none => rfl
  | some t => have := hB1.inn q (by rw [h]; simp); omega
 refine (leave_g D.h149 D.h77 D.h117 D.h143 (hB1.keep (b2.any _)) hs2 (fun q o n e => by cases e; exact on _ (Nat.le_refl _)) (by simp only [List.length_cons, List.length_nil]; omega)).use ?_
 rintro r M2 hw2 ⟨rfl, own2, vg2, hB2, U2⟩
 have U02 := (Up.quiet (own := own) (b0.trans (b1.trans b2))).trans hw0 U2
 simp only [go_sem, f1, f4]
 refine (take_g D.h150 hB2 hj (by omega)).use ?_
 rintro r M3 hw3 ⟨rfl, ⟨vp3, hB3⟩, b4⟩
 simp only [go_sem]
 exact ⟨rfl, own2, va, vp3, vg2, hB3, U02.trans hw0 (Up.same b4)⟩
theorem put_bg (D : PutT tbl) {M : Mem} {own : Own} {tp pk pv : Pos} {va vp vg : AV} {arr gl : List Vl} {prs : List (Vl × Vl)} {k v : Vl} {fr : Tr AV} {j : Nat} {M0 : Mem} (hw0 : M0.wf) (b0 : But (fun _ => False) M0 M) (hw : M.wf) (hB : DtG M own tp va vp vg arr prs gl) (hl : arr.length + prs.length ≤ 2 ^ 19)
  (hgl : gl.length ≤ 2 ^ 10) (f1 : fr.get (.o .h) = some (.ptr tp 0)) (f2 : fr.get (.o (.i .h)) = some (.ptr pk 0)) (f3 : fr.get (.i (.i .h)) = some (.ptr pv 0)) (f4 : fr.get (.o (.o (.o .h))) = some (.int 3 ((2 * j : Nat) : Int)))
  (xk : M.get pk = some (.cells [.int 3 k.k, .int 3 k.n] false)) (xv : M.get pv = some (.cells [.int 3 v.k, .int 3 v.n] false)) (ok : own pk = none) (ov : own pv = none) (hj : j < prs.length) (hv : nullV v = false) :
  CCode.wp tbl (seqTail 3 cf126.body) fr M (finW cf126.results (PutG M0 own tp (arr, prs.set j (prs[j].1, v)) (gl ++ [prs[j].2, k].filter refV))) := by
 obtain ⟨vk, vn⟩ := v
 obtain ⟨kk, kn⟩ := k
 have g : decide ((0 : Int) ≤ ((2 * j : Nat) : Int)) = true := by simp only [decide_eq_true_eq]; omega
 simp only [go_sem, cf126, seqTail, f1, f2, f3, f4, g, xv]
 refine (null_spec' D.h129 ⟨vk, vn⟩).use ?_
 rintro r M1 hw1 ⟨rfl, b1⟩
 rw [hv]
 have hB1 := hB.keep (b1.any _)
 have ht1 := hB1.tpc
 have xk1 := b1.get _ _ id xk
 have xv1 := b1.get _ _ id xv
 have l2 : slLen vp = some (2 * prs.length) := by rw [hB.prs_.len, flatV_len]
 have hfl : (flatP prs).length = 2 * prs.length := flatP_len _
 have e7 : IntKind.i64.wrap (((2 * j : Nat) : Int) + 1) = ((2 * j + 1 : Nat) : Int) := by rw [wrap64 (by omega) (by omega)]; omega
 obtain ⟨q, qo, a1, a2⟩ := vl_at hB1.prs_.rows (i := 2 * j + 1) (by omega)
 rw [hfl] at a1
 have k2 := flatP_val prs hj
 rw [List.getElem?_eq_getElem (by omega)] at k2
 rw [Option.some.inj k2] at a2
 have hset := flatV_set prs hj ⟨vk, vn⟩
 generalize prs[j] = x at *
 obtain ⟨⟨yk, yn⟩, ⟨zk, zn⟩⟩ := x
 have g3 : 2 * j + 1 < 2 * prs.length := by omega
 simp only [go_sem, f1, f2, f4, g, ht1, l2, e7, a1, a2, g3, xk1]
 have b2 := But.new (S := fun _ => False) hw1 (.cells [.int 3 zk, .int 3 zn, .int 3 kk, .int 3 kn] false)
 have hs2 : SlIs (M1.new (.cells [.int 3 zk, .int 3 zn, .int 3 kk, .int 3 kn] false)) (.slice M1.next 0 2 2) 2 (VlL [⟨zk, zn⟩, ⟨kk, kn⟩]) := SlIs.made (X := VlL [⟨zk, zn⟩, ⟨kk, kn⟩]) (x := [.int 3 zk, .int 3 zn, .int 3 kk, .int 3 kn]) (op := false) (by simp [Mem.new]) (by simp [VlL, VlR]) (by intro y hy; simp [VlL, VlR] at hy; rcases hy with rfl | rfl <;> rfl) rfl
 have on : ∀ q : Pos, M1.next.num ≤ q.num → own q = none := fun q hq => by
  cases h : own q with
  | none => rfl
  | some t => have := hB1.inn q (by rw [h]; simp); omega
 refine (leave_g D.h149 D.h77 D.h117 D.h143 (hB1.keep (b2.any _)) hs2 (fun q o n e => by cases e; exact on _ (Nat.le_refl _)) (by simp only [List.length_cons, List.length_nil]; omega)).use ?_
 rintro r M2 hw2 ⟨rfl, own2, vg2, hB2, U2⟩
 have U02 := (Up.quiet (own := own) (b0.trans (b1.trans b2))).trans hw0 U2
 have ht2 := hB2.tpc
 have xv2 := U2.2.get _ _ (fun e => e ov) (b2.get _ _ id xv1)
 obtain ⟨b, st, hq, ⟨b00, hb0⟩, s4⟩ := hB2.prs_.set_ (i := 2 * j + 1) (by rw [flatV_len]; exact g3) (x := [.int 3 vk, .int 3 vn]) rfl rfl a1
 rw [Mem.store_eq] at st
 rw [hset] at s4
 have hB3 := hB2.rowPrs hq s4
 have w3 : (M2.put q b).wf := hw2.put hb0 b
 simp only [go_sem, f1, f3, f4, ht2, l2, e7, a1, g3, xv2, st]
 exact ⟨rfl, own2, va, vp, vg2, hB3, U02.trans hw0 (Up.same (But.put (p := q) _ (by rw [hq]; simp) _))⟩
theorem put_cg (D : PutT tbl) {M : Mem} {own : Own} {tp pk pv : Pos} {va vp vg : AV} {arr gl : List Vl} {prs : List (Vl × Vl)} {k v : Vl} {fr : Tr AV} {M0 : Mem} (hw0 : M0.wf) (b0 : But (fun _ => False) M0 M) (hw : M.wf) (hB : DtG M own tp va vp vg arr prs gl) (hl : arr.length + prs.length ≤ 2 ^ 19)
  (hgl : gl.length ≤ 2 ^ 10) (f1 : fr.get (.o .h) = some (.ptr tp 0)) (f2 : fr.get (.o (.i .h)) = some (.ptr pk 0)) (f3 : fr.get (.i (.i .h)) = some (.ptr pv 0)) (f4 : fr.get (.o (.o (.o .h))) = some (.int 3 (-1)))
  (xk : M.get pk = some (.cells [.int 3 k.k, .int 3 k.n] false)) (xv : M.get pv = some (.cells [.int 3 v.k, .int 3 v.n] false)) (ok : own pk = none) (ov : own pv = none) :
  CCode.wp tbl (seqTail 3 cf126.body) fr M (finW cf126.results (PutG M0 own tp (if nullV v = true then (arr, prs) else if placedV k ((arr.length : Int) + 1) = true then growF prs.length (arr ++ [v]) prs else (arr, prs ++ [(k, v)])) (if nullV v = true then gl ++ [k].filter refV else gl))) := by
 obtain ⟨vk, vn⟩ := v
 obtain ⟨kk, kn⟩ := k
 have g : decide ((0 : Int) ≤ -1) = false := rfl
 simp only [go_sem, cf126, seqTail, f1, f2, f3, f4, g, xv]
 refine (null_spec' D.h129 ⟨vk, vn⟩).use ?_
 rintro r M1 hw1 ⟨rfl, b1⟩
 have hB1 := hB.keep (b1.any _)
 have ht1 := hB1.tpc
 have xk1 := b1.get _ _ id xk
 have xv1 := b1.get _ _ id xv
 have e2 : IntKind.i64.wrap ((arr.length : Int) + 1) = (arr.length : Int) + 1 := wrap64 (by omega) (by omega)
 have l1 : slLen va = some arr.length := by rw [hB.arr_.len, vlL_len]
 cases hv : nullV ⟨vk, vn⟩ with
 | true =>
  simp only [go_sem, f1, f2, xk1]
  have b2 := But.new (S := fun _ => False) hw1 (.cells [.int 3 kk, .int 3 kn] false)
  have hs2 : SlIs (M1.new (.cells [.int 3 kk, .int 3 kn] false)) (.slice M1.next 0 1 1) 2 (VlL [⟨kk, kn⟩]) := SlIs.made (X := VlL [⟨kk, kn⟩]) (x := [.int 3 kk, .int 3 kn]) (op := false) (by simp [Mem.new]) (by simp [VlL, VlR]) (by intro y hy; simp [VlL, VlR] at hy; rcases hy with rfl; rfl) rfl
  have on : ∀ q : Pos, M1.next.num ≤ q.num → own q = none := fun q hq => by
   cases h : own q with
   | none => rfl
   | some t => have := hB1.inn q (by rw [h]; simp); omega
  refine (leave_g D.h149 D.h77 D.h117 D.h143 (hB1.keep (b2.any _)) hs2 (fun q o n e => by cases e; exact on _ (Nat.le_refl _)) (by simp only [List.length_cons, List.length_nil]; omega)).use ?_
  rintro r M2 hw2 ⟨rfl, own2, vg2, hB2, U2⟩
  have U02 := (Up.quiet (own := own) (b0.trans (b1.trans b2))).trans hw0 U2
  simp only [go_sem]
  exact ⟨rfl, own2, va, vp, vg2, hB2, U02⟩
 | false =>
  simp only [go_sem, f1, f2, xk1, ht1, l1, e2]
  refine (placed_spec D.h128 ⟨kk, kn⟩ _).use ?_
  rintro r M2 hw2 ⟨rfl, b2⟩
  have hB2 := hB1.keep (b2.any _)
  have ht2 := hB2.tpc
  have xk2 := b2.get _ _ id xk1
  have xv2 := b2.get _ _ id xv1
  have hn2 := (b0.trans (b1.trans b2)).next
  cases hp : placedV ⟨kk, kn⟩ ((arr.length : Int) + 1) with
  | true =>
   simp only [go_sem, f1, f3, xv2]
   refine (grow_g D.toDcT D.h151 D.h150 D.h148 D.h123 (v := ⟨vk, vn⟩) hB2 hl).use ?_
   rintro r M3 hw3 ⟨rfl, ⟨own3, va3, vp3, hB3, ho⟩, b3⟩
   simp only [go_sem]
   exact ⟨rfl, own3, va3, vp3, vg, hB3, (Up.quiet (b0.trans (b1.trans b2))).trans hw0 ⟨ho, b3⟩⟩
  | false =>
   obtain ⟨v3, M3, own3, p3, s3, u3, b3, w3⟩ := hB2.prs_.push_ hw2 hB2.inn (n := 2) (c := 2) (X := [VlR ⟨kk, kn⟩, VlR ⟨vk, vn⟩]) (x := [.int 3 kk, .int 3 kn, .int 3 vk, .int 3 vn]) rfl rfl (by intro y hy; simp only [List.mem_cons, List.not_mem_nil, or_false] at hy; rcases hy with rfl | rfl <;> exact ⟨rfl, rfl⟩) (by omega) (by rw [flatV_len]; simp only [most, List.length_cons, List.length_nil]; omega)
   have hs3 : flatV prs ++ [VlR ⟨kk, kn⟩, VlR ⟨vk, vn⟩] = flatV (prs ++ [(⟨kk, kn⟩, ⟨vk, vn⟩)]) := by rw [flatV_app]; rfl
   rw [hs3] at s3
   have hc3 := s3.cell
   have hB3 := hB2.setPrs u3 b3 s3
   have ht3 := b3.get _ _ (fun e => by rw [hB2.tpo] at e; simp at e) hB2.tpc
   simp only [go_sem, f1, f2, f3, ht2, xk2, xv2, p3, hc3, ht3]
   refine ⟨rfl, own3, va, v3, vg, hB3, (Up.quiet (b0.trans (b1.trans b2))).trans hw0 ⟨fun p hp => ?_, (b3.mono fun p e => by rw [e]; simp).trans (But.put (p := tp) _ (by rw [hB.tpo]; simp) _)⟩⟩
   rcases u3 p with e | ⟨_, _, e, _⟩
   ·left; rw [e, hp]
   ·right; exact e
theorem put_g (D : PutT tbl) {M : Mem} {own : Own} {tp : Pos} {va vp vg : AV} {arr gl : List Vl} {prs : List (Vl × Vl)} {k v : Vl} (hB : DtG M own tp va vp vg arr prs gl) (hl : arr.length + prs.length ≤ 2 ^ 19)
  (hgl : gl.length ≤ 2 ^ 10) :
  CallW tbl 126 (.cons (.ptr tp 0) (.cons (VlA k) (.cons (VlA v) .nil))) M (PutG M own tp (putT arr prs k v) (gl ++ goneT arr prs k v)) := by
 refine CallW.wf fun hw => ?_
 obtain ⟨vk, vn⟩ := v
 obtain ⟨kk, kn⟩ := k
 refine CallW.intro D.h126 rfl (fr := .nod (.val (.val .leaf (VlA ⟨vk, vn⟩) .leaf) (.ptr tp 0) .leaf) (.val .leaf (VlA ⟨kk, kn⟩) .leaf)) rfl ?_
 have htp := hB.tpc
 have ne1 := hw.ne htp
 have l1 : slLen va = some arr.length := by rw [hB.arr_.len, vlL_len]
 have b1 := But.new (S := fun _ => False) hw (.cells [.int 3 kk, .int 3 kn] false)
 have w1 := hw.new (.cells [.int 3 kk, .int 3 kn] false)
 have b2 := But.new (S := fun _ => False) w1 (.cells [.int 3 vk, .int 3 vn] false)
 have w2 := w1.new (.cells [.int 3 vk, .int 3 vn] false)
 have x1 : (M.new (.cells [.int 3 kk, .int 3 kn] false)).get M.next = some (.cells [.int 3 kk, .int 3 kn] false) := by simp only [go_sem]
 have xk := b2.get _ _ id x1
 have xv : ((M.new (.cells [.int 3 kk, .int 3 kn] false)).new (.cells [.int 3 vk, .int 3 vn] false)).get M.next.succ = some (.cells [.int 3 vk, .int 3 vn] false) := by simp only [go_sem]
 have hB2 := hB.keep ((b1.trans b2).any _)
 have ok : own M.next = none := by
  cases h : own M.next with
  | none => rfl
  | some t => exact absurd (hB.inn _ (by rw [h]; simp)) (Nat.lt_irrefl _)
 have ov : own M.next.succ = none := by
  cases h : own M.next.succ with
  | none => rfl
  | some t => have := hB.inn _ (by rw [h]; simp); have e : M.next.succ.num = M.next.num + 1 := Pos.num_succ _; omega
 have hn2 := (b1.trans b2).next
 have tail := fun (fr : Tr AV) (M2 : Mem) (h : M2.wf) (b : But (fun _ => False) ((M.new (.cells [.int 3 kk, .int 3 kn] false)).new (.cells [.int 3 vk, .int 3 vn] false)) M2) (f1 : fr.get (.o .h) = some (.ptr tp 0)) (f2 : fr.get (.o (.i .h)) = some (.ptr M.next 0)) (f3 : fr.get (.i (.i .h)) = some (.ptr M.next.succ 0)) (f4 : fr.get (.o (.o (.o .h))) = some (.int 3 (posI prs ⟨kk, kn⟩))) (hp : placedV ⟨kk, kn⟩ arr.length = false) =>
  (show CCode.wp tbl (seqTail 3 cf126.body) fr M2 (finW cf126.results (PutG M own tp (putT arr prs ⟨kk, kn⟩ ⟨vk, vn⟩) (gl ++ goneT arr prs ⟨kk, kn⟩ ⟨vk, vn⟩))) from by
   simp only [putT, goneT, hp, Bool.false_eq_true, if_false]
   cases hpos : posP prs ⟨kk, kn⟩ with
   | none =>
    have hpi : posI prs ⟨kk, kn⟩ = -1 := by simp only [posI, hpos]
    rw [hpi] at f4
    have := put_cg D (k := ⟨kk, kn⟩) (v := ⟨vk, vn⟩) hw ((b1.trans b2).trans b) h (hB2.keep (b.any _)) hl hgl f1 f2 f3 f4 (b.get _ _ id xk) (b.get _ _ id xv) ok ov
    cases hv : nullV ⟨vk, vn⟩ <;> simpa [hv] using this
   | some j =>
    have hj := posP_lt hpos
    have hpi : posI prs ⟨kk, kn⟩ = ((2 * j : Nat) : Int) := by simp only [posI, hpos]
    rw [hpi] at f4
    simp only [List.getElem?_eq_getElem hj, Option.map_some, Option.getD_some]
    cases hv : nullV ⟨vk, vn⟩ with
    | true => exact put_ag D hw ((b1.trans b2).trans b) h (hB2.keep (b.any _)) hl hgl f1 f2 f3 f4 (b.get _ _ id xk) (b.get _ _ id xv) ok ov hj hv
    | false =>
     simp only [Bool.false_eq_true, if_false]
     exact put_bg D hw ((b1.trans b2).trans b) h (hB2.keep (b.any _)) hl hgl f1 f2 f3 f4 (b.get _ _ id xk) (b.get _ _ id xv) ok ov hj hv)
 rw [body126]
 generalize seqTail 3 cf126.body = tl at *
 generalize hM2 : (M.new (.cells [.int 3 kk, .int 3 kn] false)).new (.cells [.int 3 vk, .int 3 vn] false) = M2 at *
 have ht2 := hB2.tpc
 simp only [go_sem, cf126, seqHead, seqTail, VlA, htp, ne1, l1, xk, hM2, ht2]
 refine (placed_spec D.h128 ⟨kk, kn⟩ _).use ?_
 rintro r M3 hw3 ⟨rfl, b3⟩
 have hB3 := hB2.keep (b3.any _)
 have ht3 := hB3.tpc
 have xk3 := b3.get _ _ id xk
 have xv3 := b3.get _ _ id xv
 cases hp : placedV ⟨kk, kn⟩ (arr.length : Int) with
 | true =>
  have hp' := hp
  simp only [placedV, Bool.and_eq_true, decide_eq_true_eq] at hp'
  obtain ⟨hk3, hk1, hk2⟩ := hp'
  have e1 : IntKind.i64.wrap (kn - 1) = ((kn.toNat - 1 : Nat) : Int) := by rw [wrap64 (by omega) (by omega)]; omega
  have hi : kn.toNat - 1 < arr.length := by omega
  simp only [go_sem, xk3, xv3, e1]
  refine (lay_g D.toDcT D.h147 D.h149 D.h77 (v := ⟨vk, vn⟩) hB3 hi (by omega) hgl).use ?_
  rintro r M4 hw4 ⟨rfl, own4, va4, vg4, hB4, U4⟩
  simp only [go_sem]
  refine ⟨rfl, own4, va4, vp, vg4, ?_, (Up.quiet ((b1.trans b2).trans b3)).trans hw U4⟩
  simp only [putT, goneT, hp, if_true, List.getElem?_eq_getElem hi, Option.toList_some]
  exact hB4
 | false =>
  simp only [go_sem, xk3]
  refine (find_spec (l := prs) (k := ⟨kk, kn⟩) D.h148 (by omega) ht3 hB3.prs_.rows).use ?_
  rintro r M4 hw4 ⟨rfl, b4⟩
  simp only [go_sem]
  refine tail _ _ hw4 (b3.trans b4) ?_ ?_ ?_ ?_ hp
  all_goals first | rfl | simp [Tr.get_set]
end Go.Proofs.Ythpnhdopheofcaa
end
section
namespace Go.Proofs.Ythpnhdopheofcaa
open Go.Dx
variable {tbl : Nat → Option CFunc}
def Tb.gone (T : Tb) (k v : Vl) : List Vl := goneT T.arr T.prs k v
theorem dput_tail_g (D : PutT tbl) (h76 : tbl 76 = some cf76) (h127 : tbl 127 = some cf127) (h152 : tbl 152 = some cf152) {M0 M : Mem} {sv a p : AV} {pk pv : Pos} {T : Tb} {k v : Vl} {fr : Tr AV} (b0 : But (fun _ => False) M0 M) (hw0 : M0.wf) (hw : M.wf) (hs : SlIs M sv 2 (VlL T.slots)) (hl : T.slots.length ≤ 2 ^ 19)
  (sa : SlIs M a 2 (VlL T.arr)) (sp : SlIs M p 2 (VlL (flatP T.prs)))
  (f1 : fr.get (.o .h) = some sv) (f2 : fr.get (.o (.i .h)) = some (.ptr pk 0)) (f3 : fr.get (.i (.i .h)) = some (.ptr pv 0)) (f4 : fr.get (.i (.i (.o .h))) = some a) (f5 : fr.get (.o (.o (.i .h))) = some p)
  (xk : M.get pk = some (.cells [.int 3 k.k, .int 3 k.n] false)) (xv : M.get pv = some (.cells [.int 3 v.k, .int 3 v.n] false)) :
  CCode.wp tbl (seqTail 4 cf90.body) fr M (finW cf90.results fun r M' => ∃ nv gv, r = .ret (.tuple (.cons nv (.cons gv (.cons (.int 3 0) .nil)))) ∧ But (fun _ => False) M0 M' ∧ FreshSl M0 M' nv 2 (VlL (T.put k v).slots) ∧ SlIs M' gv 2 (VlL (T.gone k v)) ∧ (T.gone k v ≠ [] → ∀ p o n, slAt gv = some (p, o, n) → M0.next.num ≤ p.num ∧ p.num < M'.next.num)) := by
 obtain ⟨vk, vn⟩ := v
 obtain ⟨kk, kn⟩ := k
 have hn : T.slots.length = T.arr.length + 2 * T.prs.length + 2 := by simp only [Tb.slots, List.length_cons, List.length_append, flatP_len]
 simp only [go_sem, cf90, seqTail, f1, f2, f3, f4, f5]
 refine (clone_spec h76 sa (vlL_cells _) (by rw [vlL_len]; simp only [most]; omega)).use ?_
 rintro r M1 hw1 ⟨va, rfl, b1, s1⟩
 simp only [go_sem, f5]
 refine (clone_spec h76 (sp.old b1.old) (vlL_cells _) (by rw [vlL_len, flatP_len]; simp only [most]; omega)).use ?_
 rintro r M2 hw2 ⟨vp, rfl, b2, s2⟩
 have c1 := s1.cell
 have c2 := s2.cell
 obtain ⟨own1, u1, o1⟩ := s1 (fun _ => none) (31, 0) (fun p h => absurd rfl h)
 have i1 : own1.in M1 := u1.in_ (fun p h => absurd rfl h) b1.next
 obtain ⟨own2, u2, o2⟩ := s2 own1 (32, 0) i1
 have i2 : own2.in M2 := u2.in_ i1 b2.next
 have b3 := But.new (S := fun _ => False) hw2 (.cells [va, vp, .nilslice] false)
 have w3 := hw2.new (.cells [va, vp, .nilslice] false)
 have u3 := ownUp_new (t := (30, 0)) (M' := M2.new (.cells [va, vp, .nilslice] false)) i2 rfl
 have hB : DtG (M2.new (.cells [va, vp, .nilslice] false)) (own2.with M2.next (30, 0)) M2.next va vp .nilslice T.arr T.prs [] := by
  refine ⟨u3.in_ i2 b3.next, ?_, by simp [Mem.new], ?_, ?_, SlO.nil _ _ _ _⟩
  ·simp [Own.with]
  ·exact o1.keep (fun p b _ hp => (b2.trans b3).get p b id hp) fun p ho => u3.old (u2.old ho)
  ·exact o2.keep (fun p b _ hp => b3.get p b id hp) fun p ho => u3.old ho
 have hown : ∀ p, (own2.with M2.next (30, 0)) p ≠ none → M.next.num ≤ p.num := fun p hp => by
  have n1 := b1.next
  have n2 := b2.next
  rcases u3 p with e | ⟨_, _, e, _⟩
  ·rw [e] at hp
   rcases u2 p with e | ⟨_, _, e, _⟩
   ·rw [e] at hp
    rcases u1 p with e | ⟨_, _, e, _⟩
    ·rw [e] at hp; exact absurd rfl hp
    ·exact e
   ·omega
  ·omega
 have xk3 := ((b1.trans b2).trans b3).get _ _ id xk
 have xv3 := ((b1.trans b2).trans b3).get _ _ id xv
 simp only [go_sem, c1, c2, f2, f3, xk3, xv3]
 generalize hM3 : M2.new (.cells [va, vp, .nilslice] false) = M3 at *
 refine (put_g D (k := ⟨kk, kn⟩) (v := ⟨vk, vn⟩) hB (by omega) (by simp)).use ?_
 rintro r M4 hw4 ⟨rfl, own4, va4, vp4, vg4, hB4, ho4, b4⟩
 rw [List.nil_append] at hB4
 have hGT : goneT T.arr T.prs ⟨kk, kn⟩ ⟨vk, vn⟩ = T.gone ⟨kk, kn⟩ ⟨vk, vn⟩ := rfl
 rw [hGT] at hB4
 generalize hX : putT T.arr T.prs ⟨kk, kn⟩ ⟨vk, vn⟩ = X at *
 have hXl := putT_len T.arr T.prs ⟨kk, kn⟩ ⟨vk, vn⟩
 rw [hX] at hXl
 have b123 := (b1.trans b2).trans b3
 have hb4 : But (fun _ => False) M0 M4 := But.fresh hw0 (((b0.trans b123).any _).trans (b4.mono fun p hp => .inr (Nat.le_trans b0.next (hown p hp))))
 have hb4' : But (fun _ => False) M M4 := But.fresh hw ((b123.any _).trans (b4.mono fun p hp => .inr (hown p hp)))
 have ht4 := hB4.tpc
 have ne4 := hw4.ne ht4
 have l4 : slLen va4 = some X.1.length := by rw [hB4.arr_.len, vlL_len]
 simp only [go_sem, ht4, ne4, l4]
 refine (integer_spec D.h123 _).use ?_
 rintro r M5 hw5 ⟨rfl, b50⟩
 have b5s : But (fun _ => False) M4 ⟨M4.next.succ.succ, M4.get⟩ := ⟨by show M4.next.num ≤ M4.next.succ.succ.num; rw [Pos.num_succ, Pos.num_succ]; omega, fun _ _ _ h => h⟩
 have b5 := b5s.trans b50
 have hB5 := hB4.keep (b5.any _)
 have ht5 := hB5.tpc
 have ne5 := hw5.ne ht5
 obtain ⟨q, qo, a1, a2⟩ := vl_at (hs.old (hb4'.trans b5).old) (i := 0) (by omega)
 have hs0 : T.slots[0]'(by omega) = T.met := rfl
 rw [hs0] at a2
 have c4 := hB5.arr_.cell
 have c5 := hB5.prs_.cell
 have a3 : MB.cellsAt (M5.get q) (qo + 0) 2 = some [.int 3 T.met.k, .int 3 T.met.n] := by simpa using a2
 have g0 : 0 < T.slots.length := by omega
 obtain ⟨q', qo', a1', a2'⟩ := vl_at (hs.old hb4'.old) (i := 0) (by omega)
 rw [a1] at a1'
 cases a1'
 rw [hs0] at a2'
 have a4 : MB.cellsAt (M4.get q) (qo + 0) 2 = some [.int 3 T.met.k, .int 3 T.met.n] := by simpa using a2'
 have hn50 := b50.next
 have n0 : M4.next.succ.num = M4.next.num + 1 := Pos.num_succ _
 have n1 : M4.next.succ.succ.num = M4.next.num + 2 := by rw [Pos.num_succ, n0]
 have hn5 : M4.next.num + 2 ≤ M5.next.num := by rw [← n1]; exact hn50
 have m1 : M4.next.num < M5.next.num := by omega
 have m2 : M4.next.num < M4.next.succ.succ.num := by omega
 have m3 : M4.next.succ.num < M5.next.num := by omega
 have m4 : M4.next.succ.num < M4.next.succ.succ.num := by omega
 have m5 : M2.next.num < M4.next.num := hw4 _ _ ht4
 have ne6 : (M2.next = M4.next.succ) = False := Pos.ne_of_lt (by omega)
 simp only [go_sem, f1, ht5, ht4, ne4, ne5, ne6, a1, a3, a4, g0, c4, c5, VlA, m1, m2, m3, m4]
 have hne : (M4.next = M4.next.succ) = False := Pos.ne_of_lt (by omega)
 have on4 : ∀ p : Pos, M4.next.num ≤ p.num → own4 p = none := fun p hp => by
  cases h : own4 p with
  | none => rfl
  | some t => have := hB4.inn p (by rw [h]; simp); omega
 have bp : But (fun p => own4 p = none ∧ M.next.num ≤ p.num) M5 ((M5.put M4.next (.cells [.int 3 T.met.k, .int 3 T.met.n, .int 3 3, .int 3 ↑X.1.length] false)).put M4.next.succ (.cells [.slice M4.next 0 2 2, va4, vp4] false)) := by
  have hn4 := hb4'.next
  exact (But.put (p := M4.next) _ ⟨on4 _ (Nat.le_refl _), hn4⟩ _).trans (But.put (p := M4.next.succ) _ ⟨on4 _ (by omega), by omega⟩ _)
 have hB6 := hB5.keep (bp.mono fun p h => h.1)
 have g61 : ((M5.put M4.next (.cells [.int 3 T.met.k, .int 3 T.met.n, .int 3 3, .int 3 ↑X.1.length] false)).put M4.next.succ (.cells [.slice M4.next 0 2 2, va4, vp4] false)).get M4.next = some (.cells [.int 3 T.met.k, .int 3 T.met.n, .int 3 3, .int 3 ↑X.1.length] false) := by simp [Mem.put, hne]
 have g62 : ((M5.put M4.next (.cells [.int 3 T.met.k, .int 3 T.met.n, .int 3 3, .int 3 ↑X.1.length] false)).put M4.next.succ (.cells [.slice M4.next 0 2 2, va4, vp4] false)).get M4.next.succ = some (.cells [.slice M4.next 0 2 2, va4, vp4] false) := by simp [Mem.put]
 generalize hM6 : (M5.put M4.next (.cells [.int 3 T.met.k, .int 3 T.met.n, .int 3 3, .int 3 ↑X.1.length] false)).put M4.next.succ (.cells [.slice M4.next 0 2 2, va4, vp4] false) = M6 at *
 have h61 : SlIs M6 (.slice M4.next 0 2 2) 2 (VlL [T.met, ⟨3, (X.1.length : Int)⟩]) := SlIs.made (X := VlL [T.met, ⟨3, (X.1.length : Int)⟩]) g61 (by simp [VlL, VlR]) (by intro y hy; simp [VlL, VlR] at hy; rcases hy with rfl | rfl <;> rfl) rfl
 have h62 : SlIs M6 (.slice M4.next.succ 0 3 3) 1 [[.slice M4.next 0 2 2], [va4], [vp4]] := SlIs.made (X := [[.slice M4.next 0 2 2], [va4], [vp4]]) g62 rfl (by intro y hy; simp at hy; rcases hy with rfl | rfl | rfl <;> rfl) rfl
 have bb6 : But (fun _ => False) M0 M6 := But.fresh hw0 (((hb4.trans b5).any _).trans (bp.mono fun p h => .inr (Nat.le_trans b0.next h.2)))
 refine (concat_spec h127 h152 (ss := [(.slice M4.next 0 2 2, [T.met, ⟨3, (X.1.length : Int)⟩]), (va4, X.1), (vp4, flatP X.2)]) h62 ?_ (by simp) ?_).use ?_
 ·intro s hs
  simp only [List.mem_cons, List.not_mem_nil, or_false] at hs
  rcases hs with rfl | rfl | rfl
  ·exact ⟨h61, rfl, by simp⟩
  ·exact ⟨hB6.arr_.rows, by rw [hB6.arr_.len', vlL_len], slO_nostr hB6.arr_⟩
  ·exact ⟨hB6.prs_.rows, by rw [hB6.prs_.len', flatV_len, flatP_len], slO_nostr hB6.prs_⟩
 ·simp only [catV, List.map_cons, List.map_nil, List.flatten_cons, List.flatten_nil, List.append_nil, List.length_append, List.length_cons, List.length_nil, flatP_len]
  omega
 rintro r M7 hw7 ⟨nv, rfl, b7, s7⟩
 have ht6 := hB6.tpc
 have ht7 := b7.get _ _ id ht6
 have hcat : catV [(AV.slice M4.next 0 2 2, [T.met, ⟨3, (X.1.length : Int)⟩]), (va4, X.1), (vp4, flatP X.2)] = (T.put ⟨kk, kn⟩ ⟨vk, vn⟩).slots := by
  simp only [Tb.put, Tb.slots, hX, catV, List.map_cons, List.map_nil, List.flatten_cons, List.flatten_nil, List.append_nil]
  rfl
 rw [hcat] at s7
 simp only [go_sem, ht4, ht6, ht7, ne4, ne5, ne6]
 refine ⟨nv, vg4, rfl, bb6.trans b7, s7.old bb6.next, hB6.gon.rows.old b7.old, fun hne p o n hp => ?_⟩
 have hot := hB4.gon.own_ (fun e => hne (by simpa [VlL] using e)) hp
 have hlt := hB4.inn p (by rw [hot]; simp)
 have n45 := b5.next
 have n56 := bp.next
 have n67 := b7.next
 refine ⟨?_, by omega⟩
 cases h3 : (own2.with M2.next (30, 0)) p with
 | some t => exact Nat.le_trans b0.next (hown p (by rw [h3]; simp))
 | none =>
  rcases ho4 p h3 with e | e
  ·rw [hot] at e; cases e
  ·exact Nat.le_trans (Nat.le_trans b0.next b123.next) e
theorem dput_g (D : PutT tbl) (h90 : tbl 90 = some cf90) (h76 : tbl 76 = some cf76) (h127 : tbl 127 = some cf127) (h152 : tbl 152 = some cf152) {M : Mem} {sv : AV} {T : Tb} {k v : Vl} (hs : CutSl M sv 2 (VlL T.slots)) (hT : TbOk T) (hl : T.slots.length ≤ 2 ^ 19)
  (hk : keyV k = true) (hkm : mayV k = true) (hvm : mayV v = true) (hv0 : v.k ≠ 0) :
  CallW tbl 90 (.cons sv (.cons (VlA k) (.cons (VlA v) .nil))) M fun r M' => ∃ nv gv, r = .ret (.tuple (.cons nv (.cons gv (.cons (.int 3 0) .nil)))) ∧ But (fun _ => False) M M' ∧ FreshSl M M' nv 2 (VlL (T.put k v).slots) ∧ SlIs M' gv 2 (VlL (T.gone k v)) ∧ (T.gone k v ≠ [] → ∀ p o n, slAt gv = some (p, o, n) → M.next.num ≤ p.num ∧ p.num < M'.next.num) := by
 refine CallW.wf fun hw => ?_
 obtain ⟨vk, vn⟩ := v
 obtain ⟨kk, kn⟩ := k
 refine CallW.intro h90 rfl (fr := .nod (.val (.val .leaf (VlA ⟨vk, vn⟩) .leaf) sv .leaf) (.val .leaf (VlA ⟨kk, kn⟩) .leaf)) rfl ?_
 have b1 := But.new (S := fun _ => False) hw (.cells [.int 3 kk, .int 3 kn] false)
 have w1 := hw.new (.cells [.int 3 kk, .int 3 kn] false)
 have b2 := But.new (S := fun _ => False) w1 (.cells [.int 3 vk, .int 3 vn] false)
 have w2 := w1.new (.cells [.int 3 vk, .int 3 vn] false)
 have x1 : (M.new (.cells [.int 3 kk, .int 3 kn] false)).get M.next = some (.cells [.int 3 kk, .int 3 kn] false) := by simp only [go_sem]
 have xk := b2.get _ _ id x1
 have xv : ((M.new (.cells [.int 3 kk, .int 3 kn] false)).new (.cells [.int 3 vk, .int 3 vn] false)).get M.next.succ = some (.cells [.int 3 vk, .int 3 vn] false) := by simp only [go_sem]
 have b12 := b1.trans b2
 have tail := fun (a p : AV) (fr : Tr AV) (M2 : Mem) (h : M2.wf) (b : But (fun _ => False) M M2) (sa : SlIs M2 a 2 (VlL T.arr)) (sp : SlIs M2 p 2 (VlL (flatP T.prs))) (f1 : fr.get (.o .h) = some sv) (f2 : fr.get (.o (.i .h)) = some (.ptr M.next 0)) (f3 : fr.get (.i (.i .h)) = some (.ptr M.next.succ 0)) (f4 : fr.get (.i (.i (.o .h))) = some a) (f5 : fr.get (.o (.o (.i .h))) = some p) (xk : M2.get M.next = some (.cells [.int 3 kk, .int 3 kn] false)) (xv : M2.get M.next.succ = some (.cells [.int 3 vk, .int 3 vn] false)) =>
  dput_tail_g D h76 h127 h152 (k := ⟨kk, kn⟩) (v := ⟨vk, vn⟩) b hw h (hs.1.old b.old) hl sa sp f1 f2 f3 f4 f5 xk xv
 rw [body90]
 generalize seqTail 4 cf90.body = tl at *
 simp only [go_sem, cf90, seqHead, seqTail, VlA]
 generalize hM2 : (M.new (.cells [.int 3 kk, .int 3 kn] false)).new (.cells [.int 3 vk, .int 3 vn] false) = M2 at *
 refine (parts_spec D.toDcT (hs.quiet b12) hT).use ?_
 rintro r M3 hw3 ⟨a, p, mp, rfl, b3, sa, sp, _⟩
 have xk3 := b3.get _ _ id xk
 have xv3 := b3.get _ _ id xv
 simp only [go_sem, xk3]
 refine (may_spec D.h117 D.h143 (v := ⟨kk, kn⟩)).use ?_
 rintro r M4 hw4 ⟨rfl, b4⟩
 have xv4 := b4.get _ _ id xv3
 simp only [go_sem, hkm, xv4]
 refine (may_spec D.h117 D.h143 (v := ⟨vk, vn⟩)).use ?_
 rintro r M5 hw5 ⟨rfl, b5⟩
 have xv5 := b5.get _ _ id xv4
 have xk5 := (b4.trans b5).get _ _ id xk3
 have g : (vk == 0) = false := by simpa using hv0
 simp only [go_sem, hvm, xv5, g, xk5]
 refine (key_spec D.h125 D.h117 D.h143 ⟨kk, kn⟩).use ?_
 rintro r M6 hw6 ⟨rfl, b6⟩
 simp only [go_sem, hk]
 have bb := (b3.trans b4).trans (b5.trans b6)
 have b456 := b4.trans (b5.trans b6)
 refine tail a p _ M6 hw6 (b12.trans bb) (sa.old b456.old) (sp.old b456.old) ?_ ?_ ?_ ?_ ?_ (bb.get _ _ id xk) (bb.get _ _ id xv)
 all_goals first | rfl | simp [Tr.get_set]
end Go.Proofs.Ythpnhdopheofcaa
end
section
namespace Go.Proofs.Ythpnhdopheofcaa
open Go.Dx
variable {tbl : Nat → Option CFunc}
theorem slIs_butL {M M' : Mem} {v : AV} {size : Nat} {L : List (List AV)} (h : SlIs M v size L) {S : Pos → Prop} (b : But S M M') (hs : L ≠ [] → ∀ p o n, slAt v = some (p, o, n) → ¬ S p) : SlIs M' v size L := by
 by_cases hne : L = []
 ·subst hne
  exact ⟨h.1, h.2.1, fun hne => absurd rfl hne⟩
 ·exact h.but b (hs hne)
def QG (P : Pos → Prop) (gv : AV) (l : List Vl) (p : Pos) : Prop := P p ∨ (l ≠ [] ∧ ∃ o n, slAt gv = some (p, o, n))
theorem vlL_ne {l : List Vl} (h : VlL l ≠ []) : l ≠ [] := fun e => h (by rw [e]; rfl)
theorem vlL_ne' {l : List Vl} (h : l ≠ []) : VlL l ≠ [] := fun e => h (List.eq_nil_of_length_eq_zero (by have := congrArg List.length e; rw [vlL_len] at this; exact this))
section
variable {hp : Pos} {P : Pos → Prop} {G : Hp} {tn : Int} {T : Tb}
theorem told88_g (F : FnT tbl) {M4 : Mem} {pk pv ph pt : Pos} {k v : Vl} (w4 : M4.wf) (hH4 : HeapIs M4 hp P G) (hT : HasT G tn T) (hl : T.slots.length ≤ 2 ^ 19) (hk : keyV k = true) (hkm : mayV k = true) (hvm : mayV v = true) (hv0 : v.k ≠ 0)
  (hth : ∀ x ∈ (T.put k v).slots, thereV G x = true) (xk : M4.get pk = some (.cells [.int 3 k.k, .int 3 k.n] false)) (xv : M4.get pv = some (.cells [.int 3 v.k, .int 3 v.n] false)) (xh : M4.get ph = some (.cells [.ptr hp 0] false)) (xt : M4.get pt = some (.cells [.int 3 6, .int 3 tn] false)) :
  CallW tbl 88 (.cons (.ptr hp 0) (.cons (VlA ⟨6, tn⟩) (.cons (.func (.func 89) .nil (.cons (.ptr pk 0) (.cons (.ptr pv 0) (.cons (.ptr ph 0) (.cons (.ptr pt 0) .nil))))) .nil))) M4 fun r M' => ∃ gv, r = .ret (.tuple (.cons gv (.cons (.int 3 0) .nil))) ∧ SlIs M' gv 2 (VlL (T.gone k v)) ∧ HeapIs M' hp (QG P gv (T.gone k v)) (layG G tn (T.put k v).slots) ∧ But (fun p => ¬ P p) M4 M' := by
 obtain ⟨kk, kn⟩ := k
 obtain ⟨vk, vn⟩ := v
 obtain ⟨o, ho, hok, hos⟩ := hT.obj
 have hlG : layG G tn (T.put ⟨kk, kn⟩ ⟨vk, vn⟩).slots = { G with objs := upd G.objs tn (some { o with slots := (T.put ⟨kk, kn⟩ ⟨vk, vn⟩).slots }) } := by simp only [layG, ho, Option.map_some]
 refine CallW.intro F.h88 rfl (fr := .nod (.val (.val .leaf (.func (.func 89) .nil (.cons (.ptr pk 0) (.cons (.ptr pv 0) (.cons (.ptr ph 0) (.cons (.ptr pt 0) .nil))))) .leaf) (.ptr hp 0) .leaf) (.val .leaf (VlA ⟨6, tn⟩) .leaf)) rfl ?_
 have b5 := But.new (S := fun _ => False) w4 (.cells [.int 3 6, .int 3 tn] false)
 simp only [go_sem, cf88, VlA]
 refine (slots_ok F (hH4.quiet b5) hT).use ?_
 rintro r M6 hw6 ⟨sv, rfl, hcut, b6⟩
 have b56 := b5.trans b6
 simp only [go_sem]
 have hc : CallW tbl 89 (.cons sv (.cons (.ptr pk 0) (.cons (.ptr pv 0) (.cons (.ptr ph 0) (.cons (.ptr pt 0) .nil))))) M6 fun r M' => ∃ gv, r = .ret (.tuple (.cons gv (.cons (.int 3 0) .nil))) ∧ SlIs M' gv 2 (VlL (T.gone ⟨kk, kn⟩ ⟨vk, vn⟩)) ∧ HeapIs M' hp (QG P gv (T.gone ⟨kk, kn⟩ ⟨vk, vn⟩)) (layG G tn (T.put ⟨kk, kn⟩ ⟨vk, vn⟩).slots) ∧ But (fun p => ¬ P p) M6 M' := by
  refine CallW.intro F.h89 rfl (fr := .nod (.val (.val .leaf (.ptr pv 0) .leaf) sv (.val .leaf (.ptr pt 0) .leaf)) (.val (.val .leaf (.ptr ph 0) .leaf) (.ptr pk 0) .leaf)) rfl ?_
  have xk6 := b56.get _ _ id xk
  have xv6 := b56.get _ _ id xv
  simp only [go_sem, cf89, xk6, xv6]
  refine (dput_g F.pt F.h90 F.h76 F.h127 F.h152 (k := ⟨kk, kn⟩) (v := ⟨vk, vn⟩) hcut hT.ok hl hk hkm hvm hv0).use ?_
  rintro r M7 hw7 ⟨nv, gv, rfl, b7, hf, hg, hgp⟩
  have b567 := b56.trans b7
  have xh7 := b567.get _ _ id xh
  have xt7 := b567.get _ _ id xt
  have g0 : ((0 : Int) == 0) = true := rfl
  have hH7 : HeapIs M7 hp (QG P gv (T.gone ⟨kk, kn⟩ ⟨vk, vn⟩)) G := by
   by_cases he : T.gone ⟨kk, kn⟩ ⟨vk, vn⟩ = []
   ·exact (hH4.quiet b567).less fun p h => h.elim id fun h => absurd he h.1
   ·obtain ⟨q, qo, e1, _⟩ := hg.2.2 (vlL_ne' he)
    obtain ⟨l1, l2⟩ := hgp he q qo _ e1
    exact ((hH4.quiet b56).wide b7 l1 l2).less fun p h => h.imp id fun ⟨_, o, n, e⟩ => by rw [e1] at e; cases e; rfl
  simp only [go_sem, xh7, xt7, g0]
  have hlen : (T.put ⟨kk, kn⟩ ⟨vk, vn⟩).slots.length ≤ most := by
   have h1 := putT_len T.arr T.prs ⟨kk, kn⟩ ⟨vk, vn⟩
   have hn : T.slots.length = T.arr.length + 2 * T.prs.length + 2 := by simp only [Tb.slots, List.length_cons, List.length_append, flatP_len]
   have hn' : (T.put ⟨kk, kn⟩ ⟨vk, vn⟩).slots.length = (putT T.arr T.prs ⟨kk, kn⟩ ⟨vk, vn⟩).1.length + 2 * (putT T.arr T.prs ⟨kk, kn⟩ ⟨vk, vn⟩).2.length + 2 := by simp only [Tb.put, Tb.slots, List.length_cons, List.length_append, flatP_len]
   simp only [most]; omega
  refine (lay_ok F.h75 F.h76 F.h77 F.h81 F.h85 F.h86 F.h115 F.h117 F.h121 F.h122 F.h143 F.h145 hH7 ho (by rw [hok]; decide) hf.rows hlen hth).use ?_
  rintro r M8 hw8 ⟨rfl, hH8, b8⟩
  have hg8 := slIs_butL hg b8 fun hne p o n e h => h (.inr ⟨vlL_ne hne, o, n, e⟩)
  simp only [go_sem]
  rw [hlG]
  exact ⟨gv, rfl, hg8, hH8, (b7.any _).trans (b8.mono fun p h hp => h (.inl hp))⟩
 refine hc.use ?_
 rintro r M8 hw8 ⟨gv, rfl, hg8, hH8, b8⟩
 simp only [go_sem]
 exact ⟨gv, rfl, hg8, hH8, (b56.any _).trans b8⟩
theorem tput_g (F : FnT tbl) {M : Mem} (k v : Vl) (hH : HeapIs M hp P G) (hT : HasT G tn T) (hl : T.slots.length ≤ 2 ^ 19) (hk : keyV k = true) (hkm : mayV k = true) (hvm : mayV v = true) (hv0 : v.k ≠ 0)
  (hth : ∀ x ∈ (T.put k v).slots, thereV G x = true) (K : Nat → Hp → Prop) (hK0 : K 0 (layG G tn (T.put k v).slots)) (hgl : (T.gone k v).length ≤ 2 ^ 10)
  (hKs : ∀ (j : Nat) (hj : j < (T.gone k v).length) (M1 : Mem) (Q : Pos → Prop) (G1 : Hp), HeapIs M1 hp Q G1 → K j G1 → CallW tbl 38 (.cons (.ptr hp 0) (.cons (VlA (T.gone k v)[j]) .nil)) M1 fun r M' => (∃ e, r = .ret (.int 3 e)) ∧ (∃ G2, HeapIs M' hp Q G2 ∧ K (j + 1) G2) ∧ But (fun p => ¬ Q p) M1 M') :
  CallW tbl 44 (.cons (.ptr hp 0) (.cons (VlA ⟨6, tn⟩) (.cons (VlA k) (.cons (VlA v) .nil)))) M fun r M' => r = .ret (.int 3 0) ∧ (∃ G1, HeapIs M' hp P G1 ∧ K (T.gone k v).length G1) ∧ But (fun p => ¬ P p) M M' := by
 refine CallW.wf fun hw => ?_
 obtain ⟨kk, kn⟩ := k
 obtain ⟨vk, vn⟩ := v
 refine CallW.intro F.h44 rfl (fr := .nod (.val (.val .leaf (VlA ⟨kk, kn⟩) .leaf) (.ptr hp 0) .leaf) (.val (.val .leaf (VlA ⟨vk, vn⟩) .leaf) (VlA ⟨6, tn⟩) .leaf)) rfl ?_
 have nx : M.next.num < M.next.succ.num := by rw [Pos.num_succ]; omega
 have b1 := But.new (S := fun _ => False) hw (.cells [.ptr hp 0] false)
 have w1 := hw.new (.cells [.ptr hp 0] false)
 have b2 := But.new (S := fun _ => False) w1 (.cells [.int 3 6, .int 3 tn] false)
 have w2 := w1.new (.cells [.int 3 6, .int 3 tn] false)
 have b3 := But.new (S := fun _ => False) w2 (.cells [.int 3 kk, .int 3 kn] false)
 have w3 := w2.new (.cells [.int 3 kk, .int 3 kn] false)
 have b4 := But.new (S := fun _ => False) w3 (.cells [.int 3 vk, .int 3 vn] false)
 have w4 := w3.new (.cells [.int 3 vk, .int 3 vn] false)
 have xh0 : (M.new (.cells [.ptr hp 0] false)).get M.next = some (.cells [.ptr hp 0] false) := by simp only [go_sem]
 have xt0 : ((M.new (.cells [.ptr hp 0] false)).new (.cells [.int 3 6, .int 3 tn] false)).get M.next.succ = some (.cells [.int 3 6, .int 3 tn] false) := by simp only [go_sem]
 have xk0 : (((M.new (.cells [.ptr hp 0] false)).new (.cells [.int 3 6, .int 3 tn] false)).new (.cells [.int 3 kk, .int 3 kn] false)).get M.next.succ.succ = some (.cells [.int 3 kk, .int 3 kn] false) := by simp only [go_sem]
 have xv : ((((M.new (.cells [.ptr hp 0] false)).new (.cells [.int 3 6, .int 3 tn] false)).new (.cells [.int 3 kk, .int 3 kn] false)).new (.cells [.int 3 vk, .int 3 vn] false)).get M.next.succ.succ.succ = some (.cells [.int 3 vk, .int 3 vn] false) := by simp only [go_sem]
 have xh := ((b2.trans b3).trans b4).get _ _ id xh0
 have xt := (b3.trans b4).get _ _ id xt0
 have xk := b4.get _ _ id xk0
 have b14 := (b1.trans b2).trans (b3.trans b4)
 have hH4 := (hH.wide b1 (q := M.next) (Nat.le_refl _) nx).quiet ((b2.trans b3).trans b4)
 simp only [go_sem, cf44, VlA]
 generalize hM4 : (((M.new (.cells [.ptr hp 0] false)).new (.cells [.int 3 6, .int 3 tn] false)).new (.cells [.int 3 kk, .int 3 kn] false)).new (.cells [.int 3 vk, .int 3 vn] false) = M4 at *
 refine (told88_g F w4 hH4 hT hl hk hkm hvm hv0 hth xk xv xh xt).use ?_
 rintro r M5 hw5 ⟨gv, rfl, hg, hH5, b5⟩
 have xh5 := b5.get _ _ (fun e => e (.inr rfl)) xh
 have hgl' := hg.len
 rw [vlL_len] at hgl'
 have b05 : But (fun p => ¬ P p) M M5 := (b14.any _).trans (b5.mono fun p h hp => h (.inl hp))
 generalize hL : T.gone ⟨kk, kn⟩ ⟨vk, vn⟩ = L at *
 simp only [go_sem, hgl']
 refine loop_wp (I := fun n fr M' => ∃ j : Nat, n + j = L.length ∧ M'.wf ∧ (∃ G1, HeapIs M' hp (QG (fun p => P p ∨ p = M.next) gv L) G1 ∧ K j G1) ∧ But (fun p => ¬ QG (fun p => P p ∨ p = M.next) gv L p) M5 M' ∧ fr.get (.o (.i .h)) = some (.ptr M.next 0) ∧ fr.get (.i (.o (.o (.i .h)))) = some gv ∧ fr.get (.o (.i (.o (.i .h)))) = some (.int 3 L.length) ∧ fr.get (.i (.i (.o (.i .h)))) = some (.int 3 j)) (n := L.length) ?_ ?_
 ·exact ⟨0, rfl, hw5, ⟨_, hH5, hK0⟩, But.refl _ _, rfl, rfl, rfl, rfl⟩
 ·rintro n fr M' ⟨j, i0, i1, ⟨G1, i2, i3⟩, i4, f1, f2, f3, f4⟩
  cases n with
  | zero =>
   have g1 : decide ((j : Int) < (L.length : Int)) = false := by simp only [decide_eq_false_iff_not]; omega
   have e : j = L.length := by omega
   subst e
   simp only [go_sem, f1, f2, f3, f4, g1]
   exact ⟨⟨G1, i2.less fun p h => .inl (.inl h), i3⟩, b05.trans (i4.mono fun p h hp => h (.inl (.inl hp)))⟩
  | succ n =>
   have g1 : decide ((j : Int) < (L.length : Int)) = true := by simp only [decide_eq_true_eq]; omega
   have hi : j < L.length := by omega
   have hg' := slIs_butL hg i4 fun hne p o n e h => h (.inr ⟨vlL_ne hne, o, n, e⟩)
   have xh' := i4.get _ _ (fun e => e (.inl (.inr rfl))) xh5
   obtain ⟨p, po, a1, a2⟩ := vl_at hg' hi
   have hstep := hKs j hi
   generalize L[j] = x at *
   obtain ⟨xk1, xn1⟩ := x
   have b7 := But.fill i1 (.cells [.int 3 0, .int 3 0] false) (.cells [.int 3 xk1, .int 3 xn1] false)
   have w7 := i1.fill (.cells [.int 3 0, .int 3 0] false) (.cells [.int 3 xk1, .int 3 xn1] false)
   have y7 := b7.get _ _ id xh'
   have e1 : IntKind.i64.wrap ((j : Int) + 1) = ((j + 1 : Nat) : Int) := by rw [wrap64 (by omega) (by omega)]; omega
   have ne7 := i1.ne xh'
   simp only [go_sem, f1, f2, f3, f4, g1, a1, a2, hi, y7, xh', ne7]
   refine (hstep _ _ _ (i2.quiet b7) i3).use ?_
   rintro r M8 hw8 ⟨⟨e, rfl⟩, ⟨G2, hH8, hK8⟩, b8⟩
   simp only [go_sem, f4, e1]
   exact ⟨n, by omega, j + 1, by omega, hw8, ⟨G2, hH8, hK8⟩, (i4.trans (b7.any _)).trans b8, by simp [Tr.get_set, f1], by simp [Tr.get_set, f2], by simp [Tr.get_set, f3], by simp [Tr.get_set]⟩
end
end Go.Proofs.Ythpnhdopheofcaa
end
section
namespace Go.Proofs.Ythpnhdopheofcaa
open Go.Dx
def rv (i : Int) (v : Vl) : Int := if refV v = true ∧ v.n = i then 1 else 0
def cR (i : Int) (l : List Vl) : Int := cntI i (refsL l)
theorem cR_nil (i : Int) : cR i [] = 0 := rfl
theorem cR_cons (i : Int) (v : Vl) (l : List Vl) : cR i (v :: l) = rv i v + cR i l := by
 unfold cR refsL rv
 cases h : refV v
 ·rw [List.filter_cons_of_neg (by rw [h]; decide)]; simp
 ·rw [List.filter_cons_of_pos h]; simp [cntI]
theorem cR_app (i : Int) (l r : List Vl) : cR i (l ++ r) = cR i l + cR i r := by
 induction l with
 | nil => simp [cR_nil]
 | cons v l ih => rw [List.cons_append, cR_cons, cR_cons, ih]; omega
theorem cR_filter (i : Int) (l : List Vl) : cR i (l.filter refV) = cR i l := by
 unfold cR refsL; rw [List.filter_filter]; simp
theorem cR_nonneg (i : Int) (l : List Vl) : 0 ≤ cR i l := cntI_nonneg _ _
theorem rv_no {i : Int} {v : Vl} (h : refV v = false) : rv i v = 0 := by unfold rv; rw [h]; simp
theorem cR_le (i : Int) (l : List Vl) : cR i l ≤ l.length := Int.le_trans (cntI_le _ _) (by have := refsL_len l; omega)
theorem cR_null (i : Int) (m : Nat) : cR i (List.replicate m ⟨1, 0⟩) = 0 := by
 induction m with
 | zero => rfl
 | succ m ih => rw [List.replicate_succ, cR_cons, ih, rv_no (by decide)]; rfl
theorem cntI_perm {n : Int} {l r : List Int} (h : l.Perm r) : cntI n l = cntI n r := by
 induction h with
 | nil => rfl
 | cons x _ ih => simp only [cntI, ih]
 | swap x y l => simp only [cntI]; omega
 | trans _ _ h1 h2 => rw [h1, h2]
theorem cR_perm {i : Int} {l r : List Vl} (h : l.Perm r) : cR i l = cR i r := cntI_perm ((h.filter _).map _)
theorem cR_set (i : Int) (l : List Vl) {j : Nat} (hj : j < l.length) (v : Vl) : cR i (l.set j v) + rv i l[j] = cR i l + rv i v := by
 induction l generalizing j with
 | nil => simp at hj
 | cons x l ih =>
  cases j with
  | zero => rw [List.set_cons_zero, cR_cons, cR_cons]; simp only [List.getElem_cons_zero]; omega
  | succ j =>
   have := ih (j := j) (by simpa using hj)
   rw [List.set_cons_succ, cR_cons, cR_cons]; simp only [List.getElem_cons_succ]; omega
def cP (i : Int) (l : List (Vl × Vl)) : Int := cR i (flatP l)
theorem cP_nil (i : Int) : cP i [] = 0 := rfl
theorem cP_cons (i : Int) (x : Vl × Vl) (l : List (Vl × Vl)) : cP i (x :: l) = rv i x.1 + (rv i x.2 + cP i l) := by
 show cR i (x.1 :: x.2 :: flatP l) = _; rw [cR_cons, cR_cons]; rfl
theorem cP_app (i : Int) (l r : List (Vl × Vl)) : cP i (l ++ r) = cP i l + cP i r := by
 induction l with
 | nil => simp [cP_nil]
 | cons v l ih => rw [List.cons_append, cP_cons, cP_cons, ih]; omega
theorem cP_perm {i : Int} {l r : List (Vl × Vl)} (h : l.Perm r) : cP i l = cP i r := by
 induction h with
 | nil => rfl
 | cons x _ ih => rw [cP_cons, cP_cons, ih]
 | swap x y l => simp only [cP_cons]; omega
 | trans _ _ h1 h2 => rw [h1, h2]
theorem cP_take (i : Int) (l : List (Vl × Vl)) {j : Nat} (hj : j < l.length) : cP i (takeP l j) + (rv i l[j].1 + rv i l[j].2) = cP i l := by
 obtain ⟨A, B, e, hA⟩ := split_at l hj
 generalize l[j] = x at *
 subst e hA
 rw [cP_perm (takeP_split A B x), cP_app, cP_app, cP_cons]; omega
theorem cP_set (i : Int) (l : List (Vl × Vl)) {j : Nat} (hj : j < l.length) (v : Vl) : cP i (l.set j (l[j].1, v)) + rv i l[j].2 = cP i l + rv i v := by
 induction l generalizing j with
 | nil => simp at hj
 | cons x l ih =>
  cases j with
  | zero => rw [List.set_cons_zero, cP_cons, cP_cons]; simp only [List.getElem_cons_zero]; omega
  | succ j =>
   have := ih (j := j) (by simpa using hj)
   rw [List.set_cons_succ, cP_cons, cP_cons]; simp only [List.getElem_cons_succ]; omega
structure GenA (S : Vl → Prop) (arr : List Vl) (prs : List (Vl × Vl)) (b : Nat) : Prop where
 arr_ : ∀ v ∈ arr, S v
 prs_ : ∀ x ∈ prs, S x.1 ∧ S x.2 ∧ keyV x.1 = true ∧ x.2 ≠ ⟨1, 0⟩
 last : ∀ v, arr.getLast? = some v → v ≠ ⟨1, 0⟩
 once : (prs.map (·.1)).Nodup
 key : ∀ x ∈ prs, placedV x.1 ((arr.length : Int) + b) = false
theorem grow_gen {S : Vl → Prop} : ∀ (n : Nat) (arr : List Vl) (prs : List (Vl × Vl)), prs.length ≤ n → GenA S arr prs 0 → GenA S (growF n arr prs).1 (growF n arr prs).2 1 ∧ ∀ i, cR i (growF n arr prs).1 + cP i (growF n arr prs).2 = cR i arr + cP i prs := by
 intro n
 induction n with
 | zero =>
  intro arr prs hn h
  have : prs = [] := List.length_eq_zero_iff.1 (by omega)
  subst this
  exact ⟨⟨h.arr_, h.prs_, h.last, h.once, fun x hx => by cases hx⟩, fun k => rfl⟩
 | succ n ih =>
  intro arr prs hn h
  unfold growF
  cases hp : posP prs ⟨3, (arr.length : Int) + 1⟩ with
  | none =>
   refine ⟨⟨h.arr_, h.prs_, h.last, h.once, fun x hx => ?_⟩, fun k => rfl⟩
   have h1 := h.key x hx
   have h2 := posP_not hp x hx
   rw [placed_false] at h1 ⊢
   rintro ⟨h3, g1, g2⟩
   have hxn : x.1.n ≠ (arr.length : Int) + 1 := fun e => h2 (by
    obtain ⟨⟨a, b⟩, c⟩ := x
    simp only at h3 e
    rw [h3, e])
   exact h1 ⟨h3, g1, by simp at g2 ⊢; omega⟩
  | some j =>
   have hj := posP_lt hp
   have hk := posP_key hp
   obtain ⟨t1, t2, t3⟩ := takeP_facts hj h.once
   simp only [List.getElem?_eq_getElem hj, Option.map_some, Option.getD_some]
   have hx := h.prs_ _ (List.getElem_mem hj)
   have hA : GenA S (arr ++ [prs[j].2]) (takeP prs j) 0 := by
    refine ⟨fun v hv => ?_, fun x hx => h.prs_ x ((t2 x).1 hx).1, fun v hv => ?_, t1, fun x hx => ?_⟩
    ·rcases List.mem_append.1 hv with hv | hv
     ·exact h.arr_ v hv
     ·rw [List.mem_singleton.1 hv]; exact hx.2.1
    ·rw [List.getLast?_append, List.getLast?_singleton] at hv
     simp only [Option.some_or, Option.some.injEq] at hv
     rw [← hv]
     exact hx.2.2.2
    ·obtain ⟨m1, m2⟩ := (t2 x).1 hx
     have h1 := h.key x m1
     rw [placed_false] at h1 ⊢
     rintro ⟨h3, g1, g2⟩
     rw [hk] at m2
     have hxn : x.1.n ≠ (arr.length : Int) + 1 := fun e => m2 (by
      obtain ⟨⟨a, b⟩, c⟩ := x
      simp only at h3 e
      rw [h3, e])
     refine h1 ⟨h3, g1, ?_⟩
     simp at g2 ⊢
     omega
   obtain ⟨r1, r2⟩ := ih _ _ (by rw [takeP_len hj]; omega) hA
   refine ⟨r1, fun i => ?_⟩
   have ht := cP_take i prs hj
   rw [hk, rv_no (i := i) (v := ⟨3, (arr.length : Int) + 1⟩) (by simp [refV])] at ht
   rw [r2 i, cR_app, cR_cons, cR_nil]
   omega
theorem put_gen {S : Vl → Prop} {arr : List Vl} {prs : List (Vl × Vl)} {k v : Vl} (hA : GenA S arr prs 1) (hk : S k) (hkey : keyV k = true) (hv : S v) :
  GenA S (putT arr prs k v).1 (putT arr prs k v).2 1 ∧ ∀ i, cR i (putT arr prs k v).1 + cP i (putT arr prs k v).2 + cR i (goneT arr prs k v) = cR i arr + cP i prs + rv i k + rv i v := by
 have hvn : nullV v = true → v = ⟨1, 0⟩ := fun e => by simpa [nullV] using e
 have hvn' : nullV v = false → v ≠ ⟨1, 0⟩ := fun e h => by rw [h] at e; exact absurd e (by decide)
 have hn0 : ∀ i, nullV v = true → rv i v = 0 := fun i e => by rw [hvn e]; exact rv_no (by decide)
 unfold putT goneT
 by_cases hp : placedV k arr.length = true
 ·rw [if_pos hp, if_pos hp]
  have hkr : refV k = false := by rw [placed_iff] at hp; simp [refV, hp.1]
  rw [placed_iff] at hp
  have hi : k.n.toNat - 1 < arr.length := by omega
  obtain ⟨⟨m, l1⟩, l2⟩ := lay_law (v := v) hi hA.last
  simp only
  have hlen : arr.length = (layV arr (k.n.toNat - 1) v).length + m := by
   have := congrArg List.length l1
   rw [List.length_set, List.length_append, List.length_replicate] at this
   exact this
  refine ⟨⟨fun w hw => ?_, hA.prs_, l2, hA.once, fun x hx => ?_⟩, fun i => ?_⟩
  ·have hm : w ∈ arr.set (k.n.toNat - 1) v := by rw [l1]; exact List.mem_append_left _ hw
   rcases List.mem_or_eq_of_mem_set hm with hm | hm
   ·exact hA.arr_ w hm
   ·rw [hm]; exact hv
  ·have h1 := hA.key x hx
   rw [placed_false] at h1 ⊢
   rintro ⟨g0, g1, g2⟩
   exact h1 ⟨g0, g1, by omega⟩
  ·have h1 := cR_set i arr hi v
   rw [l1, cR_app, cR_null] at h1
   rw [List.getElem?_eq_getElem hi, Option.toList_some, cR_filter, cR_cons, cR_nil, rv_no hkr]
   omega
 ·rw [if_neg hp, if_neg hp]
  have hp' : placedV k arr.length = false := by simpa using hp
  cases hpos : posP prs k with
  | some j =>
   have hj := posP_lt hpos
   have hkj := posP_key hpos
   simp only [List.getElem?_eq_getElem hj, Option.map_some, Option.getD_some]
   cases hvb : nullV v with
   | true =>
    obtain ⟨t1, t2, t3⟩ := takeP_facts hj hA.once
    simp only [if_true]
    refine ⟨⟨hA.arr_, fun x hx => hA.prs_ x ((t2 x).1 hx).1, hA.last, t1, fun x hx => hA.key x ((t2 x).1 hx).1⟩, fun i => ?_⟩
    have := cP_take i prs hj
    have := hn0 i hvb
    rw [cR_filter, cR_cons, cR_cons, cR_cons, cR_nil]
    omega
   | false =>
    simp only [Bool.false_eq_true, if_false]
    have hmem : ∀ x ∈ prs.set j (prs[j].1, v), x ∈ prs ∨ x = (prs[j].1, v) := fun x hx => List.mem_or_eq_of_mem_set hx
    have hkk := hA.key _ (List.getElem_mem hj)
    have hpj := hA.prs_ _ (List.getElem_mem hj)
    refine ⟨⟨hA.arr_, fun x hx => ?_, hA.last, by rw [set_keys prs hj]; exact hA.once, fun x hx => ?_⟩, fun i => ?_⟩
    ·rcases hmem x hx with m | m
     ·exact hA.prs_ x m
     ·rw [m]; exact ⟨hpj.1, hv, hpj.2.2.1, hvn' hvb⟩
    ·rcases hmem x hx with m | m
     ·exact hA.key x m
     ·rw [m]; exact hkk
    ·have := cP_set i prs hj v
     rw [cR_filter, cR_cons, cR_cons, cR_nil]
     omega
  | none =>
   simp only
   cases hvb : nullV v with
   | true =>
    simp only [if_true]
    refine ⟨hA, fun i => ?_⟩
    have := hn0 i hvb
    rw [cR_filter, cR_cons, cR_nil]
    omega
   | false =>
    simp only [Bool.false_eq_true, if_false]
    by_cases hp1 : placedV k ((arr.length : Int) + 1) = true
    ·rw [if_pos hp1]
     have hkr : refV k = false := by rw [placed_iff] at hp1; simp [refV, hp1.1]
     have hA' : GenA S (arr ++ [v]) prs 0 := by
      refine ⟨fun w hw => ?_, hA.prs_, fun w hw => ?_, hA.once, fun x hx => ?_⟩
      ·rcases List.mem_append.1 hw with hw | hw
       ·exact hA.arr_ w hw
       ·rw [List.mem_singleton.1 hw]; exact hv
      ·rw [List.getLast?_append, List.getLast?_singleton] at hw
       simp only [Option.some_or, Option.some.injEq] at hw
       rw [← hw]
       exact hvn' hvb
      ·have := hA.key x hx
       rw [List.length_append, List.length_singleton]
       simpa using this
     obtain ⟨r1, r2⟩ := grow_gen prs.length (arr ++ [v]) prs (Nat.le_refl _) hA'
     refine ⟨r1, fun i => ?_⟩
     rw [r2 i, cR_app, cR_cons, cR_nil, rv_no hkr]
     omega
    ·rw [if_neg hp1]
     have hp1' : placedV k ((arr.length : Int) + 1) = false := by simpa using hp1
     have hnd : ((prs ++ [(k, v)]).map (·.1)).Nodup := by
      rw [List.map_append, List.nodup_append]
      refine ⟨hA.once, by simp, fun a ha b hb => ?_⟩
      simp only [List.map_cons, List.map_nil, List.mem_singleton] at hb
      obtain ⟨x, hx, rfl⟩ := List.mem_map.1 ha
      rw [hb]
      exact posP_not hpos x hx
     refine ⟨⟨hA.arr_, fun x hx => ?_, hA.last, hnd, fun x hx => ?_⟩, fun i => ?_⟩
     ·rcases List.mem_append.1 hx with m | m
      ·exact hA.prs_ x m
      ·rw [List.mem_singleton.1 m]; exact ⟨hk, hv, hkey, hvn' hvb⟩
     ·rcases List.mem_append.1 hx with m | m
      ·exact hA.key x m
      ·rw [List.mem_singleton.1 m]; exact hp1'
     ·rw [cP_app, cP_cons, cP_nil, cR_nil]
      simp only
      omega
end Go.Proofs.Ythpnhdopheofcaa
end
