import Derived.Test.YthpnhdopheofcaaTz
import Derived.Test.YthpnhdopheofcaaDxWk
import Derived.Test.YthpnhdopheofcaaSt
import Derived.Test.YthpnhdopheofcaaFns
import Derived.Test.YthpnhdopheofcaaDxAsl
set_option linter.unusedSimpArgs false
set_option linter.unusedVariables false
section
namespace Go.Proofs.Ythpnhdopheofcaa
open Go.Dx
variable {tbl : Nat → Option CFunc}
def okK (ks : List Int) (v : Vl) : Prop := mayV v = true ∧ v.k ≠ 0 ∧ (refV v = true → ∃ i : Nat, ks[i]? = some v.k ∧ v.n = (i : Int) + 1)
structure ShO (ks : List Int) (o : Ob) (B : Nat) : Prop where
 kd : 5 ≤ o.kind ∧ o.kind ≤ 9
 tl : o.tl = 0
 tn : o.tn = 0
 mrk : o.mark = 0
 sl : o.slots = [] ∨ (o.kind = 6 ∧ ∃ T : Tb, o.slots = T.slots ∧ GenA (okK ks) T.arr T.prs 1 ∧ okK ks T.met ∧ (T.met = ⟨1, 0⟩ ∨ T.met.k = 6))
 len : o.slots.length ≤ 2 + 2 * B
def ksO (os : List Ob) : List Int := os.map fun o => o.kind
structure TWo (G : Hp) (os : List Ob) (ex : List Vl) (B C : Nat) : Prop where
 at_ : ∀ m : Int, G.objs m = if 1 ≤ m then os[(m - 1).toNat]? else none
 tk : ∀ m, G.taken m = true ↔ 1 ≤ m ∧ m ≤ os.length
 fr : G.free = []
 nx : G.next = os.length + 1
 bf : G.buffer.length ≤ C
 cnt : ∀ i (hi : i < os.length), os[i].count = 1 + cntI ((i : Int) + 1) (allRefs os) + cR ((i : Int) + 1) ex
 sh : ∀ o ∈ os, ShO (ksO os) o B
 exo : ∀ v ∈ ex, okK (ksO os) v
 le : os.length ≤ 100
 exl : ex.length ≤ 100
 bl : B ≤ 100
 cl : C ≤ 2000
theorem aR_cons (x : Int) (o : Ob) (os : List Ob) : cntI x (allRefs (o :: os)) = cR x o.slots + cntI x (allRefs os) := by
 show cntI x (refsL o.slots ++ allRefs os) = _; rw [cntI_app]; rfl
theorem aR_app (x : Int) (l r : List Ob) : cntI x (allRefs (l ++ r)) = cntI x (allRefs l) + cntI x (allRefs r) := by
 simp only [allRefs, List.flatMap_append, cntI_app]
theorem aR_set (x : Int) (os : List Ob) {i : Nat} (hi : i < os.length) (o : Ob) : cntI x (allRefs (os.set i o)) + cR x os[i].slots = cntI x (allRefs os) + cR x o.slots := by
 induction os generalizing i with
 | nil => simp at hi
 | cons a os ih =>
  cases i with
  | zero => rw [List.set_cons_zero, aR_cons, aR_cons]; simp only [List.getElem_cons_zero]; omega
  | succ i =>
   have := ih (i := i) (by simpa using hi)
   rw [List.set_cons_succ, aR_cons, aR_cons]; simp only [List.getElem_cons_succ]; omega
theorem aR_len (os : List Ob) (n : Nat) (h : ∀ o ∈ os, o.slots.length ≤ n) : (allRefs os).length ≤ os.length * n := by
 induction os with
 | nil => simp [allRefs]
 | cons o os ih =>
  have h1 := ih fun o ho => h o (List.mem_cons_of_mem _ ho)
  have h2 := h o List.mem_cons_self
  have h3 := refsL_len o.slots
  have e : allRefs (o :: os) = refsL o.slots ++ allRefs os := rfl
  rw [e, List.length_append, List.length_cons, Nat.succ_mul]
  omega
theorem ks_set (os : List Ob) {i : Nat} (hi : i < os.length) {o : Ob} (hk : o.kind = os[i].kind) : ksO (os.set i o) = ksO os := by
 unfold ksO
 rw [List.map_set, hk]
 have : os[i].kind = (os.map fun o => o.kind)[i]'(by rw [List.length_map]; exact hi) := by simp
 rw [this, List.set_getElem_self]
theorem ks_len (os : List Ob) : (ksO os).length = os.length := by simp [ksO]
theorem ks_at (os : List Ob) {i : Nat} (hi : i < os.length) : (ksO os)[i]? = some os[i].kind := by simp [ksO, hi]
theorem okK.more {ks : List Int} {v : Vl} (h : okK ks v) (k : Int) : okK (ks ++ [k]) v :=
 ⟨h.1, h.2.1, fun hr => by obtain ⟨i, h1, h2⟩ := h.2.2 hr; exact ⟨i, by rw [List.getElem?_append_left (by by_cases c : i < ks.length; exact c; rw [List.getElem?_eq_none (by omega)] at h1; cases h1)]; exact h1, h2⟩⟩
theorem okK.lt {ks : List Int} {v : Vl} (h : okK ks v) : rv ((ks.length : Int) + 1) v = 0 := by
 unfold rv
 rw [if_neg]
 rintro ⟨h1, h2⟩
 obtain ⟨i, h3, h4⟩ := h.2.2 h1
 have : i < ks.length := by by_cases c : i < ks.length; exact c; rw [List.getElem?_eq_none (by omega)] at h3; cases h3
 omega
theorem cR_zero {i : Int} {l : List Vl} (h : ∀ v ∈ l, rv i v = 0) : cR i l = 0 := by
 induction l with
 | nil => rfl
 | cons v l ih => rw [cR_cons, h v List.mem_cons_self, ih fun w hw => h w (List.mem_cons_of_mem _ hw)]; rfl
theorem ok_num (ks : List Int) (n : Int) : okK ks ⟨3, n⟩ := ⟨by simp [mayV], by simp, fun h => by simp [refV] at h⟩
theorem ok_null (ks : List Int) : okK ks ⟨1, 0⟩ := ⟨by decide, by decide, fun h => absurd h (by decide)⟩
theorem flatP_mem {l : List (Vl × Vl)} {v : Vl} (h : v ∈ flatP l) : ∃ x ∈ l, v = x.1 ∨ v = x.2 := by
 simp only [flatP, List.mem_flatMap, List.mem_cons, List.not_mem_nil, or_false] at h; exact h
theorem gen_slots {ks : List Int} {T : Tb} {b : Nat} (h : GenA (okK ks) T.arr T.prs b) (hm : okK ks T.met) : ∀ v ∈ T.slots, okK ks v := by
 intro v hv
 simp only [Tb.slots, List.mem_cons, List.mem_append] at hv
 rcases hv with rfl | rfl | hv | hv
 ·exact hm
 ·exact ok_num _ _
 ·exact h.arr_ v hv
 ·obtain ⟨x, hx, rfl | rfl⟩ := flatP_mem hv
  ·exact (h.prs_ x hx).1
  ·exact (h.prs_ x hx).2.1
theorem ShO.all {ks : List Int} {o : Ob} {B : Nat} (h : ShO ks o B) : ∀ v ∈ o.slots, okK ks v := by
 rcases h.sl with e | ⟨_, T, e, h1, h2, _⟩
 ·rw [e]; intro v hv; cases hv
 ·rw [e]; exact gen_slots h1 h2
theorem ShO.up {ks : List Int} {o : Ob} {B B' : Nat} (h : ShO ks o B) (hB : B ≤ B') : ShO ks o B' := ⟨h.kd, h.tl, h.tn, h.mrk, h.sl, by have := h.len; omega⟩
theorem ShO.more {ks : List Int} {o : Ob} {B : Nat} (h : ShO ks o B) (k : Int) : ShO (ks ++ [k]) o B :=
 ⟨h.kd, h.tl, h.tn, h.mrk, h.sl.imp id fun ⟨a, T, b, c, d, e⟩ => ⟨a, T, b, ⟨fun v hv => (c.arr_ v hv).more k, fun x hx => ⟨(c.prs_ x hx).1.more k, (c.prs_ x hx).2.1.more k, (c.prs_ x hx).2.2⟩, c.last, c.once, c.key⟩, d.more k, e⟩, h.len⟩
theorem ShO.recount {ks : List Int} {o : Ob} {B : Nat} (h : ShO ks o B) (c : Int) : ShO ks { o with count := c } B := ⟨h.kd, h.tl, h.tn, h.mrk, h.sl, h.len⟩
section
variable {G : Hp} {os : List Ob} {ex : List Vl} {B C : Nat}
theorem TWo.obj (h : TWo G os ex B C) {i : Nat} (hi : i < os.length) : G.objs ((i : Int) + 1) = some os[i] := by
 rw [h.at_, if_pos (by omega), show ((i : Int) + 1 - 1).toNat = i by omega, List.getElem?_eq_getElem hi]
theorem TWo.all (h : TWo G os ex B C) : ∀ o ∈ os, ∀ v ∈ o.slots, okK (ksO os) v := fun o ho => (h.sh o ho).all
theorem TWo.total (h : TWo G os ex B C) (x : Int) : 0 ≤ cntI x (allRefs os) ∧ cntI x (allRefs os) ≤ 100 * 202 := by
 have h1 := aR_len os 202 fun o ho => by have := (h.sh o ho).len; have := h.bl; omega
 have h2 := cntI_le x (allRefs os)
 have h3 := h.le
 exact ⟨cntI_nonneg _ _, by omega⟩
theorem TWo.count (h : TWo G os ex B C) {i : Nat} (hi : i < os.length) : 1 ≤ os[i].count ∧ os[i].count ≤ 30000 := by
 have h1 := h.cnt i hi
 have h2 := h.total ((i : Int) + 1)
 have h3 := cR_nonneg ((i : Int) + 1) ex
 have h4 := cR_le ((i : Int) + 1) ex
 have h5 := h.exl
 omega
theorem TWo.there (h : TWo G os ex B C) {v : Vl} (hv : okK (ksO os) v) : thereV G v = true := by
 obtain ⟨h1, h2, h3⟩ := hv
 have e : (v.k == 0) = false := by simpa using h2
 cases hr : refV v with
 | false => simp only [thereV, h1, hr, e]; rfl
 | true =>
  obtain ⟨i, h4, h5⟩ := h3 hr
  have hi : i < os.length := by by_cases c : i < os.length; exact c; rw [List.getElem?_eq_none (by rw [ks_len]; omega)] at h4; cases h4
  rw [ks_at os hi] at h4
  have e2 : G.objs v.n = some os[i] := by rw [h5]; exact h.obj hi
  have e3 : (os[i].kind == v.k) = true := by simpa using Option.some.inj h4
  simp only [thereV, h1, hr, e, e2, e3]; rfl
theorem TWo.low (h : TWo G os ex B C) : Low G := fun n o ho => by
 rw [h.at_] at ho
 split at ho
 ·have := (h.sh o (List.mem_of_getElem? ho)).len
  have := h.bl
  simp only [most]; omega
 ·cases ho
theorem TWo.up (h : TWo G os ex B C) {B' C' : Nat} (hB : B ≤ B') (hC : C ≤ C') (hb : B' ≤ 100) (hc : C' ≤ 2000) : TWo G os ex B' C' :=
 ⟨h.at_, h.tk, h.fr, h.nx, Nat.le_trans h.bf hC, h.cnt, fun o ho => (h.sh o ho).up hB, h.exo, h.le, h.exl, hb, hc⟩
theorem TWo.make (h : TWo G os ex B C) {G' : Hp} {o : Ob} (h1 : ∀ m, G'.objs m = if m = G.next then some o else G.objs m) (h2 : G'.taken = upd G.taken G.next true) (h3 : G'.free = []) (h4 : G'.next = G.next + 1) (h5 : G'.buffer = G.buffer)
  (hc : o.count = 1) (hs : ShO (ksO os) o B) (hr : ∀ x, cR x o.slots = 0) (hl : os.length ≤ 99) : TWo G' (os ++ [o]) ex B C := by
 have hks : ksO (os ++ [o]) = ksO os ++ [o.kind] := by simp [ksO]
 have hn := h.nx
 refine ⟨fun m => ?_, fun m => ?_, h3, by rw [h4, hn, List.length_append, List.length_singleton]; omega, by rw [h5]; exact h.bf, fun i hi => ?_, fun p hp => ?_, fun v hv => by rw [hks]; exact (h.exo v hv).more _, by simp; omega, h.exl, h.bl, h.cl⟩
 ·rw [h1, hn]
  by_cases e : m = (os.length : Int) + 1
  ·rw [if_pos e, if_pos (by omega), e, show ((os.length : Int) + 1 - 1).toNat = os.length by omega]; simp
  ·rw [if_neg e, h.at_]
   by_cases c : 1 ≤ m
   ·rw [if_pos c, if_pos c]
    by_cases d : (m - 1).toNat < os.length
    ·rw [List.getElem?_append_left d]
    ·rw [List.getElem?_eq_none (by omega), List.getElem?_eq_none (by rw [List.length_append, List.length_singleton]; omega)]
   ·rw [if_neg c, if_neg c]
 ·rw [h2, hn]
  simp only [upd, List.length_append, List.length_singleton]
  by_cases e : m = (os.length : Int) + 1
  ·rw [if_pos e]; simp; omega
  ·rw [if_neg e, h.tk]; omega
 ·rw [aR_app, aR_cons, hr]
  have e0 : cntI ((i : Int) + 1) (allRefs []) = 0 := rfl
  rw [e0]
  by_cases d : i < os.length
  ·rw [List.getElem_append_left d, h.cnt i d]; omega
  ·have ei : i = os.length := by simp at hi; omega
   subst ei
   have e1 : cntI ((os.length : Int) + 1) (allRefs os) = 0 := by
    have hall := h.all
    have hkl := ks_len os
    generalize ksO os = ks at hall hkl
    rw [← hkl]
    clear h h1 h2 h3 h4 h5 hc hs hr hl hks hn hi e0 d hkl
    induction os with
    | nil => rfl
    | cons a os ih =>
     rw [aR_cons, ih fun o ho => hall o (List.mem_cons_of_mem _ ho), cR_zero fun v hv => (hall a List.mem_cons_self v hv).lt]; rfl
   have e2 : cR ((os.length : Int) + 1) ex = 0 := cR_zero fun v hv => by have := (h.exo v hv).lt; rwa [ks_len] at this
   rw [e1, e2]
   simp [hc]
 ·rw [hks]
  rcases List.mem_append.1 hp with hp | hp
  ·exact (h.sh p hp).more _
  ·rw [List.mem_singleton.1 hp]; exact hs.more _
theorem TWo.put (h : TWo G os ex B C) {G' : Hp} {i : Nat} (hi : i < os.length) {o : Ob} {ex' : List Vl} {B' C' : Nat} (h1 : G'.objs = upd G.objs ((i : Int) + 1) (some o)) (h2 : G'.taken = G.taken) (h3 : G'.free = G.free) (h4 : G'.next = G.next) (h5 : G'.buffer.length ≤ C') (hk : o.kind = os[i].kind)
  (hs : ShO (ksO os) o B') (hB : B ≤ B') (hex : ∀ v ∈ ex', okK (ksO os) v) (hl : ex'.length ≤ 100) (hb : B' ≤ 100) (hC : C' ≤ 2000)
  (hc : o.count = 1 + (cntI ((i : Int) + 1) (allRefs os) + cR ((i : Int) + 1) o.slots - cR ((i : Int) + 1) os[i].slots) + cR ((i : Int) + 1) ex')
  (hd : ∀ j : Nat, j ≠ i → cR ((j : Int) + 1) o.slots + cR ((j : Int) + 1) ex' = cR ((j : Int) + 1) os[i].slots + cR ((j : Int) + 1) ex) : TWo G' (os.set i o) ex' B' C' := by
 have hks := ks_set os hi hk
 refine ⟨fun m => ?_, fun m => by rw [h2, h.tk, List.length_set], by rw [h3, h.fr], by rw [h4, h.nx, List.length_set], h5, fun j hj => ?_, fun p hp => ?_, by rw [hks]; exact hex, by rw [List.length_set]; exact h.le, hl, hb, hC⟩
 ·rw [h1]
  simp only [upd]
  by_cases e : m = (i : Int) + 1
  ·rw [if_pos e, if_pos (by omega), e, show ((i : Int) + 1 - 1).toNat = i by omega, List.getElem?_set_self hi]
  ·rw [if_neg e, h.at_]
   by_cases c : 1 ≤ m
   ·rw [if_pos c, if_pos c, List.getElem?_set_ne (by omega)]
   ·rw [if_neg c, if_neg c]
 ·have ha := aR_set ((j : Int) + 1) os hi o
  rw [List.length_set] at hj
  by_cases e : j = i
  ·subst e
   rw [List.getElem_set_self, hc]; omega
  ·rw [List.getElem_set_ne (fun e' => e e'.symm), h.cnt j hj]
   have := hd j e
   omega
 ·rw [hks]
  rcases List.mem_or_eq_of_mem_set hp with hp | rfl
  ·exact (h.sh p hp).up hB
  ·exact hs
end
end Go.Proofs.Ythpnhdopheofcaa
end
section
namespace Go.Proofs.Ythpnhdopheofcaa
open Go.Dx
variable {tbl : Nat → Option CFunc}
structure TcT (tbl : Nat → Option CFunc) : Prop extends FnT tbl where
 h18 : tbl 18 = some cf18
 h38 : tbl 38 = some cf38
 h71 : tbl 71 = some cf71
 h79 : tbl 79 = some cf79
 h80 : tbl 80 = some cf80
 h83 : tbl 83 = some cf83
 h101 : tbl 101 = some cf101
 h120 : tbl 120 = some cf120
section
variable {M : Mem} {hp : Pos} {P : Pos → Prop} {G : Hp} {tn : Int} {T : Tb}
theorem slots_kind_t (F : TcT tbl) {t : Vl} (hk : t.k ≠ 6) :
  CallW tbl 100 (.cons (.ptr hp 0) (.cons (VlA t) .nil)) M fun r M' => r = .ret (.tuple (.cons .nilslice (.cons (.bool false) .nil))) ∧ But (fun _ => False) M M' := by
 refine CallW.wf fun hw => ?_
 obtain ⟨tk, tn⟩ := t
 refine CallW.intro F.h100 rfl (fr := .nod (.val .leaf (.ptr hp 0) .leaf) (.val .leaf (VlA ⟨tk, tn⟩) .leaf)) rfl ?_
 have b1 := But.new (S := fun _ => False) hw (.cells [.int 3 tk, .int 3 tn] false)
 have g1 : (tk != 6) = true := by simpa using hk
 simp only [go_sem, cf100, VlA, g1]
 exact b1
theorem put_same_t {M : Mem} {p : Pos} {b : MB} (h : M.get p = some b) : M.put p b = M := by
 have : (fun q => if q = p then some b else M.get q) = M.get := by
  funext q
  split
  ·rename_i e; rw [e, h]
  ·rfl
 unfold Mem.put
 rw [this]
def swapT (G : Hp) (n : Int) (i : Nat) (v : Vl) : Hp := { G with objs := upd G.objs n ((G.objs n).map fun o => { o with slots := o.slots.set i v }) }
theorem swap_t (F : TcT tbl) {n : Int} {i : Nat} {v : Vl} {o : Ob} (hH : HeapIs M hp P G) (ho : G.objs n = some o) (hi : i < o.slots.length) (ht : thereV G v = true) :
  CallW tbl 79 (.cons (.ptr hp 0) (.cons (.int 3 n) (.cons (.int 3 (i : Int)) (.cons (VlA v) .nil)))) M fun r M' => r = .ret (.tuple (.cons (VlA o.slots[i]) (.cons (.int 3 0) .nil))) ∧ HeapIs M' hp P (swapT G n i v) ∧ But (fun p => ¬ P p) M M' := by
 refine CallW.wf fun hw => ?_
 obtain ⟨vk, vn⟩ := v
 have hH0 := hH
 obtain ⟨own, Y, rfl, hP, hB0⟩ := hH0
 refine CallW.intro F.h79 rfl (fr := .nod (.val (.val .leaf (.int 3 (i : Int)) .leaf) (.ptr Y.hp 0) .leaf) (.val (.val .leaf (VlA ⟨vk, vn⟩) .leaf) (.int 3 n) .leaf)) rfl ?_
 have b1 := But.new (S := fun _ => False) hw (.cells [.int 3 vk, .int 3 vn] false)
 have w1 := hw.new (.cells [.int 3 vk, .int 3 vn] false)
 have b2 := But.new (S := fun _ => False) w1 (.cells [.int 3 0, .int 3 0] false)
 have w2 := w1.new (.cells [.int 3 0, .int 3 0] false)
 have x1 : (M.new (.cells [.int 3 vk, .int 3 vn] false)).get M.next = some (.cells [.int 3 vk, .int 3 vn] false) := by simp only [go_sem]
 have y1 := b2.get _ _ id x1
 have x2 : ((M.new (.cells [.int 3 vk, .int 3 vn] false)).new (.cells [.int 3 0, .int 3 0] false)).get M.next.succ = some (.cells [.int 3 0, .int 3 0] false) := by simp only [go_sem]
 simp only [go_sem, cf79, VlA]
 generalize hM2 : (M.new (.cells [.int 3 vk, .int 3 vn] false)).new (.cells [.int 3 0, .int 3 0] false) = M2 at *
 have b12 := b1.trans b2
 refine (at_some F.h80 F.h75 (hH.quiet b12) ho hi).use ?_
 rintro r M3 hw3 ⟨rfl, b3⟩
 generalize hov : o.slots[i] = ov
 obtain ⟨ok_, on_⟩ := ov
 have b4 := But.fill hw3 (.cells [.int 3 0, .int 3 0] false) (.cells [.int 3 ok_, .int 3 on_] false)
 have w4 := hw3.fill (.cells [.int 3 0, .int 3 0] false) (.cells [.int 3 ok_, .int 3 on_] false)
 have x4 : ((M3.new (.cells [.int 3 0, .int 3 0] false)).put M3.next (.cells [.int 3 ok_, .int 3 on_] false)).get M3.next = some (.cells [.int 3 ok_, .int 3 on_] false) := by simp [Mem.put]
 have b34 := b3.trans b4
 have y4 := b34.get _ _ id y1
 have z4 := b34.get _ _ id x2
 have y3 := b3.get _ _ id y1
 have ne4 := hw3.ne y3
 simp only [go_sem, VlA, ne4, y3]
 generalize hM4 : (M3.new (.cells [.int 3 0, .int 3 0] false)).put M3.next (.cells [.int 3 ok_, .int 3 on_] false) = M4 at *
 have b14 := b12.trans b34
 have hB := hB0.quiet b14
 refine (there_spec F.h115 F.h77 F.h117 F.h143 (v := ⟨vk, vn⟩) hB).use ?_
 rintro r M5 hw5 ⟨rfl, b5⟩
 have hB5 := hB.quiet b5
 have y5 := b5.get _ _ id y4
 have z5 := b5.get _ _ id z4
 have x5 := b5.get _ _ id x4
 have hcc := hB5.hpc
 simp only [hpC] at hcc
 obtain ⟨es, c, m1, m2⟩ := hB5.mpc
 have hf := m2.find (.int 3 n) ⟨n, rfl⟩
 simp only [objF, ho, Option.map_some] at hf
 obtain ⟨o1, o2, o3⟩ := hB5.obj n o ho
 simp only [ObR] at o2
 have hlen := o3.len
 rw [vlL_len] at hlen
 obtain ⟨q, qo, a1, a2⟩ := vl_at o3.rows hi
 have ok1 : okKey (.leaf .int) (.int 3 n) = true := by simp [okKey, eqKey, eqLeaf]
 obtain ⟨b, st, hq, ⟨b0, hb0⟩, s4⟩ := o3.set_ (i := i) (by rw [vlL_len]; exact hi) (x := [.int 3 vk, .int 3 vn]) rfl rfl a1
 rw [Mem.store_eq] at st
 simp only [go_sem, ht, hcc, m1, hf, ok1, o2, a1, hi, y5, st]
 have hrow : (VlL o.slots).set i [.int 3 vk, .int 3 vn] = VlL (o.slots.set i ⟨vk, vn⟩) := by simp [VlL, VlR, List.map_set]
 rw [hrow] at s4
 have nqo : Y.ob n ≠ q := fun e => by rw [e, hq] at o1; cases o1
 have hset0 := hB5.setObj (n := n) (x := { o with slots := o.slots.set i ⟨vk, vn⟩ }) (OwnUp.refl _ _ _ _) (But.put (S := fun p => own p = some (5, n)) (p := q) M5 hq b) ho s4
 have hobn : (M5.put q b).get (Y.ob n) = some (.cells (ObR { o with slots := o.slots.set i ⟨vk, vn⟩ } (Y.sv n)) false) := by
  show (if Y.ob n = q then _ else M5.get (Y.ob n)) = _
  rw [if_neg nqo]
  exact o2
 rw [put_same_t hobn] at hset0
 have e : upd Y.sv n (Y.sv n) = Y.sv := by funext m; unfold upd; split <;> simp_all
 rw [e] at hset0
 have hsG : swapT G n i ⟨vk, vn⟩ = { G with objs := upd G.objs n (some { o with slots := o.slots.set i ⟨vk, vn⟩ }) } := by simp only [swapT, ho, Option.map_some]
 rw [hsG]
 refine (touch_spec F.h81 F.h85 hset0).use ?_
 rintro r M6 hw6 ⟨rfl, b6⟩
 have fresh : ∀ p : Pos, M.next.num ≤ p.num → p ≠ q := fun p hp e => by
  have := hB0.inn q (by rw [hq]; simp)
  rw [e] at hp
  omega
 have bq : But (fun p => p = q) M5 (M5.put q b) := But.put (S := fun p => p = q) (p := q) _ rfl _
 have hn3 := (b12.trans b3).next
 have x6 := b6.get _ _ id (bq.get _ _ (fresh _ hn3) x5)
 have z6 := b6.get _ _ id (bq.get _ _ (fresh _ (by rw [Pos.num_succ]; omega)) z5)
 simp only [go_sem, x6, z6]
 have hset6 := hset0.quiet b6
 have bz : But (fun p => p = M.next.succ) M6 (M6.put M.next.succ (.cells [.int 3 ok_, .int 3 on_] false)) := But.put (S := fun p => p = M.next.succ) (p := M.next.succ) _ rfl _
 have hfr : ∀ p : Pos, M.next.num ≤ p.num → own p = none := fun p hp => by
  cases h : own p with
  | none => rfl
  | some t => have := hB0.inn p (by rw [h]; simp); omega
 have nsu : M.next.succ.num = M.next.num + 1 := Pos.num_succ _
 have hset7 := hset6.keep (bz.mono fun p e => by rw [e]; exact hfr _ (by omega))
 have bb : But (fun p => ¬ P p) M (M6.put M.next.succ (.cells [.int 3 ok_, .int 3 on_] false)) := by
  have t1 : But (fun p => ¬ P p) M M6 := (((b14.trans b5).any _).trans (bq.mono fun p e => by rw [e]; exact HeapIs.not hP hq)).trans (b6.any _)
  exact t1.trans (bz.mono fun p e hp => by have := (hP p hp).2; rw [e] at this; omega)
 first | exact ⟨⟨own, Y, rfl, fun p hp => ⟨(hP p hp).1, Nat.lt_of_lt_of_le (hP p hp).2 bb.next⟩, hset7⟩, bb⟩ | exact ⟨rfl, ⟨own, Y, rfl, fun p hp => ⟨(hP p hp).1, Nat.lt_of_lt_of_le (hP p hp).2 bb.next⟩, hset7⟩, bb⟩
end
def dropT (G : Hp) (v : Vl) : Hp := if refV v = true then { G with objs := upd G.objs v.n ((G.objs v.n).map fun o => { o with count := o.count - 1 }), buffer := if v.n ∈ G.buffer then G.buffer else G.buffer ++ [v.n] } else G
section
variable {M : Mem} {hp : Pos} {P : Pos → Prop} {G : Hp} {tn : Int} {T : Tb}
theorem setmeta_t (F : TcT tbl) {m : Vl} (hH : HeapIs M hp P G) (hT : HasT G tn T) (hm : m = ⟨1, 0⟩ ∨ ∃ Tm, m.k = 6 ∧ HasT G m.n Tm) (hth : thereV G m = true)
  (hd : refV T.met = true → ∃ o1, (swapT G tn 0 m).objs T.met.n = some o1 ∧ o1.kind = T.met.k ∧ o1.kind ≠ 5 ∧ 2 ≤ o1.count ∧ o1.count < 2 ^ 62) (hbl : G.buffer.length < 2 ^ 30) :
  CallW tbl 49 (.cons (.ptr hp 0) (.cons (VlA ⟨6, tn⟩) (.cons (VlA m) .nil))) M fun r M' => r = .ret (.int 3 0) ∧ HeapIs M' hp P (dropT (swapT G tn 0 m) T.met) ∧ But (fun p => ¬ P p) M M' := by
 refine CallW.wf fun hw => ?_
 obtain ⟨mk, mn⟩ := m
 refine CallW.intro F.h49 rfl (fr := .nod (.val (.val .leaf (VlA ⟨mk, mn⟩) .leaf) (.ptr hp 0) .leaf) (.val .leaf (VlA ⟨6, tn⟩) .leaf)) rfl ?_
 have b1 := But.new (S := fun _ => False) hw (.cells [.ptr hp 0] false)
 have w1 := hw.new (.cells [.ptr hp 0] false)
 have b2 := But.new (S := fun _ => False) w1 (.cells [.int 3 6, .int 3 tn] false)
 have w2 := w1.new (.cells [.int 3 6, .int 3 tn] false)
 have b3 := But.new (S := fun _ => False) w2 (.cells [.int 3 mk, .int 3 mn] false)
 have w3 := w2.new (.cells [.int 3 mk, .int 3 mn] false)
 have xh0 : (M.new (.cells [.ptr hp 0] false)).get M.next = some (.cells [.ptr hp 0] false) := by simp only [go_sem]
 have xt0 : ((M.new (.cells [.ptr hp 0] false)).new (.cells [.int 3 6, .int 3 tn] false)).get M.next.succ = some (.cells [.int 3 6, .int 3 tn] false) := by simp only [go_sem]
 have xm : (((M.new (.cells [.ptr hp 0] false)).new (.cells [.int 3 6, .int 3 tn] false)).new (.cells [.int 3 mk, .int 3 mn] false)).get M.next.succ.succ = some (.cells [.int 3 mk, .int 3 mn] false) := by simp only [go_sem]
 have xh := (b2.trans b3).get _ _ id xh0
 have xt := b3.get _ _ id xt0
 have b13 := (b1.trans b2).trans b3
 have hH3 := hH.quiet b13
 have hHb3 := ((hH.more hw (.cells [.ptr hp 0] false)).quiet b2).quiet b3
 simp only [go_sem, cf49, VlA]
 generalize hM3 : ((M.new (.cells [.ptr hp 0] false)).new (.cells [.int 3 6, .int 3 tn] false)).new (.cells [.int 3 mk, .int 3 mn] false) = M3 at *
 have told : ∀ (P : Pos → Prop) M4, M4.wf → But (fun _ => False) M3 M4 → HeapIs M4 hp P G → CallW tbl 91 (.cons (.ptr hp 0) (.cons (VlA ⟨6, tn⟩) (.cons (.func (.func 101) .nil (.cons (.ptr M.next 0) (.cons (.ptr M.next.succ 0) (.cons (.ptr M.next.succ.succ 0) .nil)))) .nil))) M4 fun r M' => r = .ret (.tuple (.cons (VlA T.met) (.cons (.int 3 0) .nil))) ∧ HeapIs M' hp P (swapT G tn 0 ⟨mk, mn⟩) ∧ But (fun p => ¬ P p) M4 M' := by
  intro P M4 w4 b4 hH4
  refine CallW.intro F.h91 rfl (fr := .nod (.val (.val .leaf (.func (.func 101) .nil (.cons (.ptr M.next 0) (.cons (.ptr M.next.succ 0) (.cons (.ptr M.next.succ.succ 0) .nil)))) .leaf) (.ptr hp 0) .leaf) (.val .leaf (VlA ⟨6, tn⟩) .leaf)) rfl ?_
  have c1 := But.new (S := fun _ => False) w4 (.cells [.int 3 6, .int 3 tn] false)
  have v1 := w4.new (.cells [.int 3 6, .int 3 tn] false)
  have c2 := But.new (S := fun _ => False) v1 (.cells [.int 3 0, .int 3 0] false)
  have v2 := v1.new (.cells [.int 3 0, .int 3 0] false)
  have x2 : ((M4.new (.cells [.int 3 6, .int 3 tn] false)).new (.cells [.int 3 0, .int 3 0] false)).get M4.next.succ = some (.cells [.int 3 0, .int 3 0] false) := by simp only [go_sem]
  have nsu : M4.next.succ.num = M4.next.num + 1 := Pos.num_succ _
  have hW := (hH4.quiet c1).more v1 (.cells [.int 3 0, .int 3 0] false)
  have hnx : (M4.new (.cells [.int 3 6, .int 3 tn] false)).next = M4.next.succ := rfl
  rw [hnx] at hW
  simp only [go_sem, cf91, VlA]
  generalize hM5 : (M4.new (.cells [.int 3 6, .int 3 tn] false)).new (.cells [.int 3 0, .int 3 0] false) = M5 at *
  have c12 := c1.trans c2
  refine (slots_ok F.toFnT hW hT).use ?_
  rintro r M6 hw6 ⟨sv, rfl, hcut, c3⟩
  have x6 := c3.get _ _ id x2
  have hW6 := hW.quiet c3
  have c46 := b4.trans (c12.trans c3)
  simp only [go_sem]
  have hc : CallW tbl 101 (.cons sv (.cons (.ptr M.next 0) (.cons (.ptr M.next.succ 0) (.cons (.ptr M.next.succ.succ 0) .nil)))) M6 fun r M' => r = .ret (.tuple (.cons (VlA T.met) (.cons (.int 3 0) .nil))) ∧ HeapIs M' hp (fun p => P p ∨ p = M4.next.succ) (swapT G tn 0 ⟨mk, mn⟩) ∧ But (fun p => ¬ (P p ∨ p = M4.next.succ)) M6 M' := by
   refine CallW.intro F.h101 rfl (fr := .nod (.val (.val .leaf (.ptr M.next.succ 0) .leaf) sv .leaf) (.val (.val .leaf (.ptr M.next.succ.succ 0) .leaf) (.ptr M.next 0) .leaf)) rfl ?_
   have d1 := But.new (S := fun _ => False) hw6 (.cells [.int 3 0, .int 3 0] false)
   have u1 := hw6.new (.cells [.int 3 0, .int 3 0] false)
   have yh := c46.get _ _ id xh
   have yt := c46.get _ _ id xt
   have ym := c46.get _ _ id xm
   have nh := hw6.ne yh
   have nt := hw6.ne yt
   have nm := hw6.ne ym
   have xz : (M6.new (.cells [.int 3 0, .int 3 0] false)).get M6.next = some (.cells [.int 3 0, .int 3 0] false) := by simp only [go_sem]
   have hW7 := hW6.more hw6 (.cells [.int 3 0, .int 3 0] false)
   obtain ⟨o, ho, hok, hos⟩ := hT.obj
   have hn : T.slots.length = T.arr.length + 2 * T.prs.length + 2 := by simp only [Tb.slots, List.length_cons, List.length_append, flatP_len]
   have hi : 0 < o.slots.length := by rw [hos]; omega
   have hs0 : o.slots[0] = T.met := by simp only [hos]; rfl
   simp only [go_sem, cf101, yh, yt, ym, nh, nt, nm]
   refine (swap_t F (i := 0) (v := ⟨mk, mn⟩) hW7 ho hi hth).use ?_
   rintro r M8 hw8 ⟨rfl, hH8, d8⟩
   rw [hs0]
   have z8 := d8.get _ _ (fun h => h (.inr rfl)) xz
   generalize T.met = mv
   obtain ⟨rk, rn⟩ := mv
   simp only [go_sem, VlA, z8]
   have bz : But (fun p => p = M6.next) M8 (M8.put M6.next (.cells [.int 3 rk, .int 3 rn] false)) := But.put (S := fun p => p = M6.next) (p := M6.next) _ rfl _
   have hlo : ∀ p, (P p ∨ p = M4.next.succ) → p.num < M6.next.num := fun p hp => by obtain ⟨_, _, _, h2, _⟩ := hW6; exact (h2 p hp).2
   have hH9 := (hH8.frame (bz.mono fun p e => .inr e)).less (Q := fun p => P p ∨ p = M4.next.succ) fun p hp => .inl hp
   have t1 : But (fun p => ¬ (P p ∨ p = M4.next.succ)) M6 M8 := (d1.any _).trans (d8.mono fun p hn hp => hn (.inl hp))
   have bb := t1.trans (bz.mono fun p e hp => by have := hlo p hp; rw [e] at this; omega)
   first | exact ⟨hH9, bb⟩ | exact ⟨rfl, hH9, bb⟩
  refine hc.use ?_
  rintro r M7 hw7 ⟨rfl, hH7, c7⟩
  have x7 := c7.get _ _ (fun h => h (.inr rfl)) x6
  generalize T.met = mv
  obtain ⟨rk, rn⟩ := mv
  simp only [go_sem, VlA, x7]
  have bz : But (fun p => p = M4.next.succ) M7 (M7.put M4.next.succ (.cells [.int 3 rk, .int 3 rn] false)) := But.put (S := fun p => p = M4.next.succ) (p := M4.next.succ) _ rfl _
  have hlo : ∀ p, P p → p.num < M4.next.num := fun p hp => by obtain ⟨_, _, _, h2, _⟩ := hH4; exact (h2 p hp).2
  have hH9 := (hH7.frame (bz.mono fun p e => .inr e)).less (Q := P) fun p hp => .inl hp
  have hc7 : But (fun p => ¬ P p) M4 M7 := ((c12.trans c3).any _).trans (c7.mono fun p hn hp => hn (.inl hp))
  have bb := hc7.trans (bz.mono fun p e hp => by have := hlo p hp; rw [e] at this; omega)
  first | exact ⟨hH9, bb⟩ | exact ⟨rfl, hH9, bb⟩
 have hsl : CallW tbl 100 (.cons (.ptr hp 0) (.cons (VlA ⟨mk, mn⟩) .nil)) M3 fun r M' => (∃ sv is, r = .ret (.tuple (.cons sv (.cons (.bool is) .nil))) ∧ (is = true ∨ (mk = 1 ∧ mn = 0 ∧ is = false))) ∧ But (fun _ => False) M3 M' := by
  rcases hm with hm | ⟨Tm, hm1, hm2⟩
  ·cases hm
   refine (slots_kind_t F (t := ⟨1, 0⟩) (by decide)).use ?_
   rintro r M' hw' ⟨rfl, b'⟩
   exact ⟨⟨_, _, rfl, .inr ⟨rfl, rfl, rfl⟩⟩, b'⟩
  ·simp only at hm1 hm2
   subst hm1
   refine (slots_ok F.toFnT hH3 hm2).use ?_
   rintro r M' hw' ⟨sv, rfl, _, b'⟩
   exact ⟨⟨_, _, rfl, .inl rfl⟩, b'⟩
 refine hsl.use ?_
 rintro r M4 hw4 ⟨⟨sv, is, rfl, his⟩, b4⟩
 have yh := b4.get _ _ id xh
 have yt := b4.get _ _ id xt
 have ym := b4.get _ _ id xm
 have fin : ∀ (M5 : Mem) (w5 : M5.wf), HeapIs M5 hp P (swapT G tn 0 ⟨mk, mn⟩) → But (fun p => ¬ P p) M M5 → CallW tbl 38 (.cons (.ptr hp 0) (.cons (VlA T.met) .nil)) M5 fun r M' => HeapIs M' hp P (dropT (swapT G tn 0 ⟨mk, mn⟩) T.met) ∧ But (fun p => ¬ P p) M M' ∧ ∃ e, r = .ret (.int 3 e) := by
  intro M5 w5 hH5 c5
  cases hr : refV T.met with
  | false =>
   refine (drop_no F.h38 F.h71 F.h77 F.h81 F.h83 F.h85 F.h115 F.h117 F.h120 F.h143 hH5 hr).use ?_
   rintro r M' hw' ⟨rfl, b'⟩
   have e : dropT (swapT G tn 0 ⟨mk, mn⟩) T.met = swapT G tn 0 ⟨mk, mn⟩ := by simp only [dropT, hr, Bool.false_eq_true, if_false]
   rw [e]
   exact ⟨hH5.quiet b', c5.trans (b'.any _), _, rfl⟩
  | true =>
   obtain ⟨o1, q1, q2, q3, q4, q5⟩ := hd hr
   refine (drop_more F.h38 F.h71 F.h77 F.h81 F.h83 F.h85 F.h115 F.h117 F.h120 F.h143 hH5 hr q1 q2 q3 ⟨q4, q5⟩ hbl).use ?_
   rintro r M' hw' ⟨rfl, hH', b'⟩
   have e : dropT (swapT G tn 0 ⟨mk, mn⟩) T.met = { swapT G tn 0 ⟨mk, mn⟩ with objs := upd (swapT G tn 0 ⟨mk, mn⟩).objs T.met.n (some { o1 with count := o1.count - 1 }), buffer := if T.met.n ∈ (swapT G tn 0 ⟨mk, mn⟩).buffer then (swapT G tn 0 ⟨mk, mn⟩).buffer else (swapT G tn 0 ⟨mk, mn⟩).buffer ++ [T.met.n] } := by
    simp only [dropT, hr, if_true, q1, Option.map_some]
   rw [e]
   exact ⟨hH', c5.trans b', _, rfl⟩
 have hlo : ∀ p, P p → p.num < M.next.num := fun p hp => by obtain ⟨_, _, _, h2, _⟩ := hH; exact (h2 p hp).2
 have hHb := hHb3.quiet b4
 have b14 := b13.trans b4
 have go : ∀ (rv : Vl), rv = T.met → True := fun _ _ => trivial
 rcases his with his | ⟨his1, his2, his3⟩
 ·subst his
  simp only [go_sem, yh, ym, yt]
  refine (told (fun p => P p ∨ p = M.next) M4 hw4 b4 hHb).use ?_
  rintro r M5 hw5 ⟨rfl, hH5, b5⟩
  have zh := b5.get _ _ (fun h => h (.inr rfl)) yh
  have ne5 := hw5.ne zh
  have bf := But.fill hw5 (.cells [.int 3 0, .int 3 0] false) (.cells [.int 3 T.met.k, .int 3 T.met.n] false)
  have wf := hw5.fill (.cells [.int 3 0, .int 3 0] false) (.cells [.int 3 T.met.k, .int 3 T.met.n] false)
  have fin' := fin _ wf ((hH5.quiet bf).less (Q := P) fun p hp => .inl hp) (((b14.any _).trans (b5.mono fun p hn hp => hn (.inl hp))).trans (bf.any _))
  generalize hv : dropT (swapT G tn 0 ⟨mk, mn⟩) T.met = G' at *
  generalize T.met = mv at *
  obtain ⟨rk, rn⟩ := mv
  simp only [go_sem, VlA, zh, ne5]
  simp only [VlA] at fin'
  refine fin'.use ?_
  rintro r M6 hw6 ⟨hH6, b6, e, rfl⟩
  simp only [go_sem]
  first | exact ⟨hH6, b6⟩ | exact ⟨rfl, hH6, b6⟩
 ·subst his1 his2 his3
  simp only [go_sem, yh, ym, yt]
  refine (told (fun p => P p ∨ p = M.next) M4 hw4 b4 hHb).use ?_
  rintro r M5 hw5 ⟨rfl, hH5, b5⟩
  have zh := b5.get _ _ (fun h => h (.inr rfl)) yh
  have ne5 := hw5.ne zh
  have bf := But.fill hw5 (.cells [.int 3 0, .int 3 0] false) (.cells [.int 3 T.met.k, .int 3 T.met.n] false)
  have wf := hw5.fill (.cells [.int 3 0, .int 3 0] false) (.cells [.int 3 T.met.k, .int 3 T.met.n] false)
  have fin' := fin _ wf ((hH5.quiet bf).less (Q := P) fun p hp => .inl hp) (((b14.any _).trans (b5.mono fun p hn hp => hn (.inl hp))).trans (bf.any _))
  generalize hv : dropT (swapT G tn 0 ⟨1, 0⟩) T.met = G' at *
  generalize T.met = mv at *
  obtain ⟨rk, rn⟩ := mv
  simp only [go_sem, VlA, zh, ne5]
  simp only [VlA] at fin'
  refine fin'.use ?_
  rintro r M6 hw6 ⟨hH6, b6, e, rfl⟩
  simp only [go_sem]
  first | exact ⟨hH6, b6⟩ | exact ⟨rfl, hH6, b6⟩
end
section
variable {M : Mem} {hp : Pos} {P : Pos → Prop} {G : Hp}
theorem keep_t (F : TcT tbl) {v : Vl} (hH : HeapIs M hp P G) (hr : refV v = false) :
  CallW tbl 18 (.cons (.ptr hp 0) (.cons (VlA v) .nil)) M fun r M' => r = .ret (.int 3 0) ∧ But (fun _ => False) M M' := by
 refine CallW.wf fun hw => ?_
 obtain ⟨own, Y, rfl, hP, hB⟩ := hH
 obtain ⟨k, n⟩ := v
 refine CallW.intro F.h18 rfl (fr := .nod (.val .leaf (.ptr Y.hp 0) .leaf) (.val .leaf (VlA ⟨k, n⟩) .leaf)) rfl ?_
 have hb := But.new (S := fun _ => False) hw (.cells [.int 3 k, .int 3 n] false)
 simp only [go_sem, cf18, VlA]
 refine (counted_no F.h71 F.h77 F.h81 F.h85 F.h115 F.h117 F.h143 (v := ⟨k, n⟩) (hB.quiet hb) hr).use ?_
 rintro r M1 hw1 ⟨rfl, b1⟩
 simp only [go_sem]
 exact hb.trans b1
end
end Go.Proofs.Ythpnhdopheofcaa
end
section
namespace Go.Proofs.Ythpnhdopheofcaa
open Go.Dx
variable {tbl : Nat → Option CFunc}
section
variable (h38 : tbl 38 = some cf38) (h71 : tbl 71 = some cf71) (h77 : tbl 77 = some cf77) (h81 : tbl 81 = some cf81) (h85 : tbl 85 = some cf85) (h115 : tbl 115 = some cf115) (h117 : tbl 117 = some cf117) (h143 : tbl 143 = some cf143)
include h38 h71 h77 h81 h85 h115 h117 h143
theorem drop_str {M : Mem} {hp : Pos} {P : Pos → Prop} {G : Hp} {v : Vl} {o : Ob} (hH : HeapIs M hp P G) (hr : refV v = true) (ho : G.objs v.n = some o) (hk : o.kind = v.k) (hk5 : o.kind = 5) (hc : 2 ≤ o.count ∧ o.count < 2 ^ 62) :
  CallW tbl 38 (.cons (.ptr hp 0) (.cons (VlA v) .nil)) M fun r M' => r = .ret (.int 3 0) ∧ HeapIs M' hp P { G with objs := upd G.objs v.n (some { o with count := o.count - 1 }) } ∧ But (fun p => ¬ P p) M M' := by
 refine CallW.wf fun hw => ?_
 obtain ⟨own, Y, rfl, hP, hB⟩ := hH
 obtain ⟨k, n⟩ := v
 refine CallW.intro h38 rfl (fr := .nod (.val .leaf (.ptr Y.hp 0) .leaf) (.val .leaf (VlA ⟨k, n⟩) .leaf)) rfl ?_
 have hb := But.new (S := fun _ => False) hw (.cells [.int 3 k, .int 3 n] false)
 simp only [go_sem, cf38, VlA]
 refine (counted_yes h71 h77 h81 h85 h115 h117 h143 (v := ⟨k, n⟩) (hB.quiet hb) hr ho hk (by omega)).use ?_
 rintro r M1 hw1 ⟨rfl, b1⟩
 have hB1 := hB.quiet (hb.trans b1)
 obtain ⟨o1, o2, o3⟩ := hB1.obj n o ho
 have hset := hB1.setOb (x := { o with count := o.count - 1 }) ho rfl
 have e0 : M1.get M.next = some (.cells [.int 3 k, .int 3 n] false) := b1.get _ _ id (by simp only [go_sem])
 have ne4 := hw.ne' (hB.obj n o ho).2.1
 simp only [ObR] at o2 hset
 have e1 : IntKind.i64.wrap (o.count - 1) = o.count - 1 := wrap64 (by omega) (by omega)
 have g0 : (o.count - 1 == 0) = false := by simp; omega
 have g5 : (o.kind != 5) = false := by simp [hk5]
 have hcc := hset.hpc
 simp only [hpC] at hcc
 have nhp : (Y.hp = Y.ob n) = False := eq_false fun e => by have := hB.hpo; rw [e, o1] at this; cases this
 have hc1 := hB1.hpc
 simp only [hpC] at hc1
 simp only [go_sem, e0, o2, e1, g0, g5, hc1, nhp]
 have bset : But (fun p => ¬ P p) M (M1.put (Y.ob n) (.cells [.int 3 o.kind, .int 3 (o.count - 1), Y.sv n, .str o.tl o.tn, .int 3 o.mark] false)) := ((hb.trans b1).any _).trans (But.put (p := Y.ob n) _ (HeapIs.not hP o1) _)
 have wset := hw1.put o2 (.cells [.int 3 o.kind, .int 3 (o.count - 1), Y.sv n, .str o.tl o.tn, .int 3 o.mark] false)
 have hPn : ∀ p, P p → own p = none ∧ p.num < M1.next.num := fun p hp => ⟨(hP p hp).1, Nat.lt_of_lt_of_le (hP p hp).2 (hb.trans b1).next⟩
 exact ⟨⟨own, Y, rfl, hPn, hset⟩, bset⟩
end
section
variable {M : Mem} {hp : Pos} {P : Pos → Prop} {G : Hp} {t m : Vl}
theorem setmeta_bad (F : TcT tbl) (hH : HeapIs M hp P G) (hG : Low G) (hm : NoT G m) (hm0 : m ≠ ⟨1, 0⟩) :
  CallW tbl 49 (.cons (.ptr hp 0) (.cons (VlA t) (.cons (VlA m) .nil))) M fun r M' => r = .ret (.int 3 7) ∧ But (fun _ => False) M M' := by
 refine CallW.wf fun hw => ?_
 obtain ⟨tk, tn⟩ := t
 obtain ⟨mk, mn⟩ := m
 refine CallW.intro F.h49 rfl (fr := .nod (.val (.val .leaf (VlA ⟨mk, mn⟩) .leaf) (.ptr hp 0) .leaf) (.val .leaf (VlA ⟨tk, tn⟩) .leaf)) rfl ?_
 have b1 := But.new (S := fun _ => False) hw (.cells [.ptr hp 0] false)
 have w1 := hw.new (.cells [.ptr hp 0] false)
 have b2 := But.new (S := fun _ => False) w1 (.cells [.int 3 tk, .int 3 tn] false)
 have w2 := w1.new (.cells [.int 3 tk, .int 3 tn] false)
 have b3 := But.new (S := fun _ => False) w2 (.cells [.int 3 mk, .int 3 mn] false)
 have hb := (b1.trans b2).trans b3
 have x1 : (((M.new (.cells [.ptr hp 0] false)).new (.cells [.int 3 tk, .int 3 tn] false)).new (.cells [.int 3 mk, .int 3 mn] false)).get M.next = some (.cells [.ptr hp 0] false) := by simp only [go_sem]
 have x2 : (((M.new (.cells [.ptr hp 0] false)).new (.cells [.int 3 tk, .int 3 tn] false)).new (.cells [.int 3 mk, .int 3 mn] false)).get M.next.succ = some (.cells [.int 3 tk, .int 3 tn] false) := by simp only [go_sem]
 have x3 : (((M.new (.cells [.ptr hp 0] false)).new (.cells [.int 3 tk, .int 3 tn] false)).new (.cells [.int 3 mk, .int 3 mn] false)).get M.next.succ.succ = some (.cells [.int 3 mk, .int 3 mn] false) := by simp only [go_sem]
 simp only [go_sem, cf49, VlA]
 refine (slots_no F.tb (t := ⟨mk, mn⟩) (hH.quiet hb) hG hm).use ?_
 rintro r M5 hw5 ⟨rfl, b5⟩
 have y1 := b5.get _ _ id x1
 have y2 := b5.get _ _ id x2
 have y3 := b5.get _ _ id x3
 by_cases hmk : mk = 1
 ·have hmn : mn ≠ 0 := fun e => hm0 (by rw [hmk, e])
  have g1 : (mk == 1) = true := by simpa using hmk
  have g2 : (mn == 0) = false := by simpa using hmn
  simp only [go_sem, y1, y2, y3, g1, g2]
  exact hb.trans b5
 ·have g1 : (mk == 1) = false := by simpa using hmk
  have g3 : ((false && (mn == 0)) != true) = true := by simp
  simp only [go_sem, y1, y2, y3, g1, g3]
  exact hb.trans b5
theorem setmeta_no2 (F : TcT tbl) (hH : HeapIs M hp P G) (hG : Low G) (ht : NoT G t) {Tm : Tb} (hm6 : m.k = 6) (hm : HasT G m.n Tm) :
  CallW tbl 49 (.cons (.ptr hp 0) (.cons (VlA t) (.cons (VlA m) .nil))) M fun r M' => r = .ret (.int 3 7) ∧ But (fun _ => False) M M' := by
 refine CallW.wf fun hw => ?_
 obtain ⟨tk, tn⟩ := t
 obtain ⟨mk, mn⟩ := m
 refine CallW.intro F.h49 rfl (fr := .nod (.val (.val .leaf (VlA ⟨mk, mn⟩) .leaf) (.ptr hp 0) .leaf) (.val .leaf (VlA ⟨tk, tn⟩) .leaf)) rfl ?_
 have b1 := But.new (S := fun _ => False) hw (.cells [.ptr hp 0] false)
 have w1 := hw.new (.cells [.ptr hp 0] false)
 have b2 := But.new (S := fun _ => False) w1 (.cells [.int 3 tk, .int 3 tn] false)
 have w2 := w1.new (.cells [.int 3 tk, .int 3 tn] false)
 have b3 := But.new (S := fun _ => False) w2 (.cells [.int 3 mk, .int 3 mn] false)
 have hb := (b1.trans b2).trans b3
 have x1 : (((M.new (.cells [.ptr hp 0] false)).new (.cells [.int 3 tk, .int 3 tn] false)).new (.cells [.int 3 mk, .int 3 mn] false)).get M.next = some (.cells [.ptr hp 0] false) := by simp only [go_sem]
 have x2 : (((M.new (.cells [.ptr hp 0] false)).new (.cells [.int 3 tk, .int 3 tn] false)).new (.cells [.int 3 mk, .int 3 mn] false)).get M.next.succ = some (.cells [.int 3 tk, .int 3 tn] false) := by simp only [go_sem]
 have x3 : (((M.new (.cells [.ptr hp 0] false)).new (.cells [.int 3 tk, .int 3 tn] false)).new (.cells [.int 3 mk, .int 3 mn] false)).get M.next.succ.succ = some (.cells [.int 3 mk, .int 3 mn] false) := by simp only [go_sem]
 simp only [go_sem, cf49, VlA]
 simp only at hm6 hm
 subst hm6
 refine (slots_ok F.toFnT (hH.quiet hb) hm).use ?_
 rintro r M5 hw5 ⟨sv, rfl, _, b5⟩
 have y1 := b5.get _ _ id x1
 have y2 := b5.get _ _ id x2
 have y3 := b5.get _ _ id x3
 simp only [go_sem, y1, y2, y3]
 refine (told91 F.tb (t := ⟨tk, tn⟩) (hH.quiet (hb.trans b5)) hG ht).use ?_
 rintro r M6 hw6 ⟨rfl, b6⟩
 have g7 : ((7 : Int) == 0) = false := rfl
 simp only [go_sem, VlA, g7]
 have bf := ((hb.trans b5).trans b6).trans (But.fill hw6 (.cells [.int 3 0, .int 3 0] false) (.cells [.int 3 0, .int 3 0] false))
 first | exact bf | exact ⟨rfl, bf⟩
end
end Go.Proofs.Ythpnhdopheofcaa
end
section
namespace Go.Proofs.Ythpnhdopheofcaa
open Go.Dx
variable {tbl : Nat → Option CFunc}
theorem cR_slots (x : Int) (T : Tb) : cR x T.slots = rv x T.met + (cR x T.arr + cP x T.prs) := by
 simp only [Tb.slots]
 rw [cR_cons, cR_cons, cR_app, rv_no (v := ⟨3, (T.arr.length : Int)⟩) (by simp [refV])]
 show _ + (0 + (_ + cP x T.prs)) = _
 omega
theorem gone_mem {arr : List Vl} {prs : List (Vl × Vl)} {k v w : Vl} (h : w ∈ goneT arr prs k v) : w ∈ arr ∨ (∃ x ∈ prs, w = x.1 ∨ w = x.2) ∨ w = k := by
 unfold goneT at h
 split at h
 ·left
  have := (List.mem_filter.1 h).1
  simp only [Option.mem_toList] at this
  exact List.mem_of_getElem? this
 ·split at h
  ·rename_i j hpos
   have hj := posP_lt hpos
   simp only [List.getElem?_eq_getElem hj, Option.map_some, Option.getD_some] at h
   split at h
   ·have := (List.mem_filter.1 h).1
    simp only [List.mem_cons, List.not_mem_nil, or_false] at this
    rcases this with e | e | e
    ·exact .inr (.inl ⟨_, List.getElem_mem hj, .inr e⟩)
    ·exact .inr (.inl ⟨_, List.getElem_mem hj, .inl e⟩)
    ·exact .inr (.inr e)
   ·have := (List.mem_filter.1 h).1
    simp only [List.mem_cons, List.not_mem_nil, or_false] at this
    rcases this with e | e
    ·exact .inr (.inl ⟨_, List.getElem_mem hj, .inr e⟩)
    ·exact .inr (.inr e)
  ·split at h
   ·have := (List.mem_filter.1 h).1
    simp only [List.mem_cons, List.not_mem_nil, or_false] at this
    exact .inr (.inr this)
   ·cases h
theorem gone_len (arr : List Vl) (prs : List (Vl × Vl)) (k v : Vl) : (goneT arr prs k v).length ≤ 3 := by
 unfold goneT
 have hf : ∀ l : List Vl, (l.filter refV).length ≤ l.length := fun l => List.length_filter_le _ _
 split
 ·refine Nat.le_trans (hf _) ?_; cases arr[k.n.toNat - 1]? <;> simp
 ·split
  ·split <;> exact Nat.le_trans (hf _) (by simp)
  ·split
   ·exact Nat.le_trans (hf _) (by simp)
   ·simp
section
variable {M : Mem} {hp : Pos} {P : Pos → Prop} {G : Hp} {os : List Ob} {ex : List Vl} {B C : Nat} {v : Vl}
theorem okK.at_ {os : List Ob} {v : Vl} (h : okK (ksO os) v) (hr : refV v = true) : ∃ (i : Nat) (hi : i < os.length), v.n = (i : Int) + 1 ∧ os[i].kind = v.k := by
 obtain ⟨i, h1, h2⟩ := h.2.2 hr
 have hi : i < os.length := by by_cases c : i < os.length; exact c; rw [List.getElem?_eq_none (by rw [ks_len]; omega)] at h1; cases h1
 rw [ks_at os hi] at h1
 exact ⟨i, hi, h2, Option.some.inj h1⟩
theorem tkeep (F : TcT tbl) (hH : HeapIs M hp P G) (h : TWo G os ex B C) (hv : okK (ksO os) v) (hl : ex.length ≤ 99) :
  CallW tbl 18 (.cons (.ptr hp 0) (.cons (VlA v) .nil)) M fun r M' => r = .ret (.int 3 0) ∧ (∃ G' os', HeapIs M' hp P G' ∧ TWo G' os' (v :: ex) B C ∧ ksO os' = ksO os) ∧ But (fun p => ¬ P p) M M' := by
 cases hr : refV v with
 | false =>
  refine (keep_t F hH hr).mono ?_
  rintro r M' ⟨rfl, b⟩
  refine ⟨rfl, ⟨G, os, hH.quiet b, { h with cnt := fun i hi => ?_, exo := fun w hw => ?_, exl := ?_ }, rfl⟩, b.any _⟩
  ·rw [cR_cons, rv_no hr, h.cnt i hi]; omega
  ·rcases List.mem_cons.1 hw with rfl | hw
   ·exact hv
   ·exact h.exo w hw
  ·simp only [List.length_cons]; omega
 | true =>
  obtain ⟨i, hi, h1, h2⟩ := hv.at_ hr
  have ho : G.objs v.n = some os[i] := by rw [h1]; exact h.obj hi
  have hc := h.count hi
  refine (keep_yes F.h18 F.h71 F.h77 F.h81 F.h85 F.h115 F.h117 F.h143 hH hr ho h2 (by omega) (by omega)).mono ?_
  rintro r M' ⟨rfl, hH', b⟩
  have hs := (h.sh _ (List.getElem_mem hi)).recount (os[i].count + 1)
  refine ⟨rfl, ⟨_, os.set i { os[i] with count := os[i].count + 1 }, hH', h.put hi (o := { os[i] with count := os[i].count + 1 }) (ex' := v :: ex) (by rw [← h1]) rfl rfl rfl h.bf rfl hs (Nat.le_refl _) (fun w hw => ?_) (by simp only [List.length_cons]; omega) h.bl h.cl ?_ fun j hj => ?_, ks_set os hi rfl⟩, b⟩
  ·rcases List.mem_cons.1 hw with rfl | hw
   ·exact hv
   ·exact h.exo w hw
  ·have e1 : rv ((i : Int) + 1) v = 1 := by unfold rv; rw [if_pos ⟨hr, h1⟩]
   rw [cR_cons, e1]
   have hcn := h.cnt i hi
   show os[i].count + 1 = 1 + (cntI ((i : Int) + 1) (allRefs os) + cR ((i : Int) + 1) os[i].slots - cR ((i : Int) + 1) os[i].slots) + (1 + cR ((i : Int) + 1) ex)
   omega
  ·have e1 : rv ((j : Int) + 1) v = 0 := by unfold rv; rw [if_neg (fun e => hj (by omega))]
   rw [cR_cons, e1]
   show cR _ os[i].slots + _ = _
   omega
theorem tdrop (F : TcT tbl) (hH : HeapIs M hp P G) (h : TWo G os (v :: ex) B C) (hC : C + 1 ≤ 2000) :
  CallW tbl 38 (.cons (.ptr hp 0) (.cons (VlA v) .nil)) M fun r M' => r = .ret (.int 3 0) ∧ (∃ G' os', HeapIs M' hp P G' ∧ TWo G' os' ex B (C + 1) ∧ ksO os' = ksO os) ∧ But (fun p => ¬ P p) M M' := by
 have hv := h.exo v (by simp)
 have hxl := h.exl
 simp only [List.length_cons] at hxl
 cases hr : refV v with
 | false =>
  refine (drop_no F.h38 F.h71 F.h77 F.h81 F.h83 F.h85 F.h115 F.h117 F.h120 F.h143 hH hr).mono ?_
  rintro r M' ⟨rfl, b⟩
  refine ⟨rfl, ⟨G, os, hH.quiet b, { h with bf := Nat.le_succ_of_le h.bf, cl := hC, cnt := fun i hi => ?_, exo := fun w hw => h.exo w (List.mem_cons_of_mem _ hw), exl := by omega }, rfl⟩, b.any _⟩
  have := h.cnt i hi
  rw [cR_cons, rv_no hr] at this
  omega
 | true =>
  obtain ⟨i, hi, h1, h2⟩ := hv.at_ hr
  have ho : G.objs v.n = some os[i] := by rw [h1]; exact h.obj hi
  have hs := (h.sh _ (List.getElem_mem hi)).recount (os[i].count - 1)
  have e1 : rv ((i : Int) + 1) v = 1 := by unfold rv; rw [if_pos ⟨hr, h1⟩]
  have hcn := h.cnt i hi
  rw [cR_cons, e1] at hcn
  have hc := h.count hi
  have h0 := (h.total ((i : Int) + 1)).1
  have h00 := cR_nonneg ((i : Int) + 1) ex
  have key : ∀ {G' : Hp}, G'.objs = upd G.objs ((i : Int) + 1) (some { os[i] with count := os[i].count - 1 }) → G'.taken = G.taken → G'.free = G.free → G'.next = G.next → G'.buffer.length ≤ C + 1 → TWo G' (os.set i { os[i] with count := os[i].count - 1 }) ex B (C + 1) := fun a1 a2 a3 a4 a5 =>
   h.put hi (o := { os[i] with count := os[i].count - 1 }) (ex' := ex) a1 a2 a3 a4 a5 rfl hs (Nat.le_refl _) (fun w hw => h.exo w (List.mem_cons_of_mem _ hw)) (by omega) h.bl hC (by show os[i].count - 1 = _; simp only; omega) fun j hj => by
    have e2 : rv ((j : Int) + 1) v = 0 := by unfold rv; rw [if_neg (fun e => hj (by omega))]
    rw [cR_cons, e2]
    show cR _ os[i].slots + _ = _
    omega
  by_cases hk5 : os[i].kind = 5
  ·refine (drop_str F.h38 F.h71 F.h77 F.h81 F.h85 F.h115 F.h117 F.h143 hH hr ho h2 hk5 (by omega)).mono ?_
   rintro r M' ⟨rfl, hH', b⟩
   exact ⟨rfl, ⟨_, _, hH', key (by rw [← h1]) rfl rfl rfl (Nat.le_succ_of_le h.bf), ks_set os hi rfl⟩, b⟩
  ·have hbf := h.bf
   refine (drop_more F.h38 F.h71 F.h77 F.h81 F.h83 F.h85 F.h115 F.h117 F.h120 F.h143 hH hr ho h2 hk5 (by omega) (by omega)).mono ?_
   rintro r M' ⟨rfl, hH', b⟩
   refine ⟨rfl, ⟨_, _, hH', key (by rw [← h1]) rfl rfl rfl ?_, ks_set os hi rfl⟩, b⟩
   show (if v.n ∈ G.buffer then G.buffer else G.buffer ++ [v.n]).length ≤ C + 1
   split
   ·omega
   ·rw [List.length_append, List.length_singleton]; omega
theorem tmake (F : TcT tbl) (hH : HeapIs M hp P G) (h : TWo G os ex B C) {k : Int} (hk : 5 ≤ k ∧ k ≤ 9) (hl : os.length ≤ 99) :
  CallW tbl 48 (.cons (.ptr hp 0) (.cons (.int 3 k) (.cons (.str 0 0) .nil))) M fun r M' => r = .ret (VlA ⟨k, (os.length : Int) + 1⟩) ∧ (∃ G' os', HeapIs M' hp P G' ∧ TWo G' os' ex B C ∧ ksO os' = ksO os ++ [k]) ∧ But (fun p => ¬ P p) M M' := by
 have hn := h.nx
 have ht : takeN G = (os.length : Int) + 1 := by simp [takeN, h.fr, hn]
 have hks : ksO (os ++ [⟨k, 1, [], 0, 0, 0⟩]) = ksO os ++ [k] := by simp [ksO]
 have fin : TWo { takeG G with objs := upd G.objs G.next (some ⟨k, 1, [], 0, 0, 0⟩) } (os ++ [⟨k, 1, [], 0, 0, 0⟩]) ex B C :=
  h.make (o := ⟨k, 1, [], 0, 0, 0⟩) (fun m => rfl) (by show upd G.taken (takeN G) true = _; rw [ht, ← hn]) (by show G.free.dropLast = []; rw [h.fr]; rfl) (by show (if G.free = [] then G.next + 1 else G.next) = _; rw [if_pos h.fr]) rfl rfl
   ⟨hk, rfl, rfl, rfl, .inl rfl, by simp⟩ (fun x => rfl) hl
 by_cases h5 : k = 5
 ·subst h5
  refine (make_str F.h48 F.h99 F.h130 (tl := 0) (tn := 0) (by decide) hH h.fr (by rw [hn]; omega)).mono ?_
  rintro r M' ⟨rfl, hH', b⟩
  exact ⟨by rw [hn], ⟨_, _, hH', fin, hks⟩, b⟩
 ·refine (make_new F.h48 F.h99 F.h130 (k := k) hH (by omega) h.fr (by rw [hn]; omega)).mono ?_
  rintro r M' ⟨rfl, hH', b⟩
  exact ⟨by rw [hn], ⟨_, _, hH', fin, hks⟩, b⟩
theorem ttnew (F : TcT tbl) (hH : HeapIs M hp P G) (h : TWo G os ex B C) (hl : os.length ≤ 99) :
  CallW tbl 41 (.cons (.ptr hp 0) .nil) M fun r M' => r = .ret (VlA ⟨6, (os.length : Int) + 1⟩) ∧ (∃ G' os', HeapIs M' hp P G' ∧ TWo G' os' ex B C ∧ ksO os' = ksO os ++ [6]) ∧ But (fun p => ¬ P p) M M' := by
 have hn := h.nx
 have ht : takeN G = (os.length : Int) + 1 := by simp [takeN, h.fr, hn]
 have hks : ksO (os ++ [⟨6, 1, [⟨1, 0⟩, ⟨3, 0⟩], 0, 0, 0⟩]) = ksO os ++ [6] := by simp [ksO]
 refine (tnew_spec F.tb hH h.fr (by rw [hn]; omega)).mono ?_
 rintro r M' ⟨rfl, hH', b⟩
 refine ⟨by rw [hn], ⟨_, _, hH', h.make (o := ⟨6, 1, [⟨1, 0⟩, ⟨3, 0⟩], 0, 0, 0⟩) (fun m => ?_) (by show upd G.taken (takeN G) true = _; rw [ht, ← hn]) (by show G.free.dropLast = []; rw [h.fr]; rfl) (by show (if G.free = [] then G.next + 1 else G.next) = _; rw [if_pos h.fr]) rfl rfl
   ⟨⟨by show (5 : Int) ≤ 6; decide, by show (6 : Int) ≤ 9; decide⟩, rfl, rfl, rfl, .inr ⟨rfl, ⟨⟨1, 0⟩, [], []⟩, rfl, ⟨fun v hv => (by cases hv), fun x hx => (by cases hx), fun v hv => (by cases hv), List.nodup_nil, fun x hx => (by cases hx)⟩, ok_null _, .inl rfl⟩, by simp⟩ (fun x => ?_) hl, hks⟩, b⟩
 ·show upd (upd G.objs G.next _) G.next _ m = _
  simp only [upd]
  split <;> rfl
 ·show cR x [⟨1, 0⟩, ⟨3, 0⟩] = 0
  rw [cR_cons, cR_cons, rv_no (by decide), rv_no (by decide)]; rfl
end
end Go.Proofs.Ythpnhdopheofcaa
end
section
namespace Go.Proofs.Ythpnhdopheofcaa
open Go.Dx
variable {tbl : Nat → Option CFunc}
theorem tbOk_of {ks : List Int} {T : Tb} (h : GenA (okK ks) T.arr T.prs 1) (hm : okK ks T.met) (h6 : T.met = ⟨1, 0⟩ ∨ T.met.k = 6) (hl : T.slots.length ≤ 2 ^ 20) : TbOk T :=
 ⟨fun v hv => ⟨(gen_slots h hm v hv).1, (gen_slots h hm v hv).2.1⟩, h6, h.last, h.once, fun x hx => ⟨(h.prs_ x hx).2.2.1, (h.prs_ x hx).2.2.2, by have := h.key x hx; simpa using this⟩, hl⟩
section
variable {M : Mem} {hp : Pos} {P : Pos → Prop} {G : Hp} {os : List Ob} {ex : List Vl} {B C : Nat} {v k m : Vl}
theorem TWo.isT (h : TWo G os ex B C) {i : Nat} (hi : i < os.length) : (∀ kd : Int, NoT G ⟨kd, (i : Int) + 1⟩) ∨ (os[i].kind = 6 ∧ ∃ T, HasT G ((i : Int) + 1) T ∧ os[i].slots = T.slots ∧ GenA (okK (ksO os)) T.arr T.prs 1 ∧ okK (ksO os) T.met ∧ (T.met = ⟨1, 0⟩ ∨ T.met.k = 6)) := by
 have hs := h.sh _ (List.getElem_mem hi)
 have hle := h.le
 have hb := h.bl
 rcases hs.sl with e | ⟨h6, T, e, h1, h2, h3⟩
 ·left
  intro kd o _ _ ho _
  have := h.obj hi
  simp only at ho
  rw [this] at ho
  cases ho; exact e
 ·right
  have hl := hs.len
  rw [e] at hl
  exact ⟨h6, T, ⟨by simp only [mayV]; simp; omega, ⟨_, h.obj hi, h6, e⟩, tbOk_of h1 h2 h3 (by omega)⟩, e, h1, h2, h3⟩
theorem tput (F : TcT tbl) (hH : HeapIs M hp P G) (h : TWo G os (v :: k :: ex) B C) {i : Nat} (hi : i < os.length) (hkey : keyV k = true) (hB : B + 1 ≤ 100) (hC : C + 3 ≤ 2000) (hx : ex.length ≤ 90) :
  CallW tbl 44 (.cons (.ptr hp 0) (.cons (VlA ⟨os[i].kind, (i : Int) + 1⟩) (.cons (VlA k) (.cons (VlA v) .nil)))) M fun r M' => ((r = .ret (.int 3 0) ∧ ∃ G' os', HeapIs M' hp P G' ∧ TWo G' os' ex (B + 1) (C + 3) ∧ ksO os' = ksO os) ∨ (r = .ret (.int 3 7) ∧ HeapIs M' hp P G)) ∧ But (fun p => ¬ P p) M M' := by
 have hkk := h.exo k (by simp)
 have hvv := h.exo v (by simp)
 rcases h.isT hi with hno | ⟨h6, T, hT, hsl, hg, hm, hm6⟩
 ·refine (put_no F.tb hH h.low (hno _)).mono ?_
  rintro r M' ⟨rfl, b⟩
  exact ⟨.inr ⟨rfl, hH.quiet b⟩, b.any _⟩
 ·rw [h6]
  obtain ⟨p1, p2⟩ := put_gen (S := okK (ksO os)) (k := k) (v := v) hg hkk hkey hvv
  have hlen := (h.sh _ (List.getElem_mem hi)).len
  rw [hsl] at hlen
  have hpl := putT_len T.arr T.prs k v
  have hn : T.slots.length = T.arr.length + 2 * T.prs.length + 2 := by simp only [Tb.slots, List.length_cons, List.length_append, flatP_len]
  have hn' : (T.put k v).slots.length = (putT T.arr T.prs k v).1.length + 2 * (putT T.arr T.prs k v).2.length + 2 := by simp only [Tb.put, Tb.slots, List.length_cons, List.length_append, flatP_len]
  have hbl := h.bl
  have hg3 : (T.gone k v).length ≤ 3 := gone_len _ _ _ _
  have hgo : ∀ w ∈ T.gone k v, okK (ksO os) w := fun w hw => by
   rcases gone_mem hw with e | ⟨x, hx, e | e⟩ | e
   ·exact hg.arr_ w e
   ·rw [e]; exact (hg.prs_ x hx).1
   ·rw [e]; exact (hg.prs_ x hx).2.1
   ·rw [e]; exact hkk
  have hcount : ∀ x, cR x (T.put k v).slots + cR x (T.gone k v ++ ex) = cR x os[i].slots + cR x (v :: k :: ex) := fun x => by
   rw [hsl, cR_slots, cR_slots, cR_app, cR_cons, cR_cons]
   have := p2 x
   show rv x T.met + (cR x (putT T.arr T.prs k v).1 + cP x (putT T.arr T.prs k v).2) + (cR x (goneT T.arr T.prs k v) + cR x ex) = _
   omega
  have hcn := h.cnt i hi
  have hK0 : TWo (layG G ((i : Int) + 1) (T.put k v).slots) (os.set i { os[i] with slots := (T.put k v).slots }) (T.gone k v ++ ex) (B + 1) C :=
   h.put hi (o := { os[i] with slots := (T.put k v).slots }) (by simp [layG, h.obj hi]) rfl rfl rfl h.bf rfl
    (by
     have hs := h.sh _ (List.getElem_mem hi)
     exact ⟨hs.kd, hs.tl, hs.tn, hs.mrk, .inr ⟨h6, T.put k v, rfl, p1, hm, hm6⟩, by show (T.put k v).slots.length ≤ _; omega⟩) (Nat.le_succ B)
    (fun w hw => by
     rcases List.mem_append.1 hw with hw | hw
     ·exact hgo w hw
     ·exact h.exo w (by simp [hw])) (by rw [List.length_append]; omega) hB h.cl
    (by
     have := hcount ((i : Int) + 1)
     show os[i].count = 1 + (cntI ((i : Int) + 1) (allRefs os) + cR ((i : Int) + 1) (T.put k v).slots - cR ((i : Int) + 1) os[i].slots) + cR ((i : Int) + 1) (T.gone k v ++ ex)
     omega)
    fun j hj => hcount _
  have hks : ksO (os.set i { os[i] with slots := (T.put k v).slots }) = ksO os := ks_set os hi rfl
  refine (tput_g F.toFnT k v hH hT (by omega) hkey hkk.1 hvv.1 hvv.2.1 (fun x hx => h.there (gen_slots (T := T.put k v) p1 hm x hx))
   (fun j G' => ∃ os', TWo G' os' ((T.gone k v).drop j ++ ex) (B + 1) (C + j) ∧ ksO os' = ksO os) ⟨_, by simpa using hK0, hks⟩ (by omega) ?_).mono ?_
  ·rintro j hj M1 Q G1 hH1 ⟨os1, h1, hk1⟩
   rw [List.drop_eq_getElem_cons hj, List.cons_append] at h1
   refine (tdrop F hH1 h1 (by omega)).mono ?_
   rintro r M' ⟨rfl, ⟨G2, os2, hH2, h2, hk2⟩, b⟩
   exact ⟨⟨0, rfl⟩, ⟨G2, hH2, os2, h2, hk2.trans hk1⟩, b⟩
  ·rintro r M' ⟨rfl, ⟨G1, hH1, os1, h1, hk1⟩, b⟩
   rw [List.drop_length, List.nil_append] at h1
   exact ⟨.inl ⟨rfl, G1, os1, hH1, h1.up (Nat.le_refl _) (by omega) hB hC, hk1⟩, b⟩
theorem TWo.dropG (h : TWo G os (v :: ex) B C) (h5 : refV v = true → v.k ≠ 5) (hC : C + 1 ≤ 2000) : ∃ os', TWo (dropT G v) os' ex B (C + 1) ∧ ksO os' = ksO os := by
 have hv := h.exo v (by simp)
 have hxl := h.exl
 simp only [List.length_cons] at hxl
 cases hr : refV v with
 | false =>
  have e : dropT G v = G := by simp only [dropT, hr, Bool.false_eq_true, if_false]
  rw [e]
  refine ⟨os, { h with bf := Nat.le_succ_of_le h.bf, cl := hC, cnt := fun i hi => ?_, exo := fun w hw => h.exo w (List.mem_cons_of_mem _ hw), exl := by omega }, rfl⟩
  have := h.cnt i hi
  rw [cR_cons, rv_no hr] at this
  omega
 | true =>
  obtain ⟨i, hi, h1, h2⟩ := hv.at_ hr
  have hs := (h.sh _ (List.getElem_mem hi)).recount (os[i].count - 1)
  have e1 : rv ((i : Int) + 1) v = 1 := by unfold rv; rw [if_pos ⟨hr, h1⟩]
  have hcn := h.cnt i hi
  rw [cR_cons, e1] at hcn
  have hbf := h.bf
  refine ⟨_, h.put hi (o := { os[i] with count := os[i].count - 1 }) (ex' := ex) (C' := C + 1) (by simp [dropT, hr, h1, h.obj hi]) (by simp [dropT, hr]) (by simp [dropT, hr]) (by simp [dropT, hr]) ?_ rfl hs (Nat.le_refl _) (fun w hw => h.exo w (List.mem_cons_of_mem _ hw)) (by omega) h.bl hC (by show os[i].count - 1 = 1 + (cntI ((i : Int) + 1) (allRefs os) + cR ((i : Int) + 1) os[i].slots - cR ((i : Int) + 1) os[i].slots) + cR ((i : Int) + 1) ex; omega) fun j hj => ?_, ks_set os hi rfl⟩
  ·simp only [dropT, hr, if_true]
   split
   ·omega
   ·rw [List.length_append, List.length_singleton]; omega
  ·have e2 : rv ((j : Int) + 1) v = 0 := by unfold rv; rw [if_neg (fun e => hj (by omega))]
   rw [cR_cons, e2]
   show cR _ os[i].slots + _ = _
   omega
theorem tsetmeta (F : TcT tbl) (hH : HeapIs M hp P G) (h : TWo G os (m :: ex) B C) {i : Nat} (hi : i < os.length) (hm0 : m ≠ ⟨1, 0⟩) (hC : C + 1 ≤ 2000) :
  CallW tbl 49 (.cons (.ptr hp 0) (.cons (VlA ⟨os[i].kind, (i : Int) + 1⟩) (.cons (VlA m) .nil))) M fun r M' => ((r = .ret (.int 3 0) ∧ ∃ G' os', HeapIs M' hp P G' ∧ TWo G' os' ex B (C + 1) ∧ ksO os' = ksO os) ∨ (r = .ret (.int 3 7) ∧ HeapIs M' hp P G)) ∧ But (fun p => ¬ P p) M M' := by
 have hmo := h.exo m (by simp)
 have hxl := h.exl
 simp only [List.length_cons] at hxl
 have hm : NoT G m ∨ ∃ Tm, m.k = 6 ∧ HasT G m.n Tm := by
  by_cases h6 : m.k = 6
  ·have hr : refV m = true := by simp [refV, h6, hmo.1]
   obtain ⟨j, hj, e1, e2⟩ := hmo.at_ hr
   rcases h.isT hj with hno | ⟨_, Tm, hTm, _⟩
   ·left; have := hno m.k; rw [← e1] at this; exact this
   ·right; exact ⟨Tm, h6, by rw [e1]; exact hTm⟩
  ·left; exact fun o hk => absurd hk h6
 rcases hm with hno | ⟨Tm, hm6, hTm⟩
 ·refine (setmeta_bad F hH h.low hno hm0).mono ?_
  rintro r M' ⟨rfl, b⟩
  exact ⟨.inr ⟨rfl, hH.quiet b⟩, b.any _⟩
 ·rcases h.isT hi with hno | ⟨h6, T, hT, hsl, hg, hmt, hmt6⟩
  ·refine (setmeta_no2 F hH h.low (hno _) hm6 hTm).mono ?_
   rintro r M' ⟨rfl, b⟩
   exact ⟨.inr ⟨rfl, hH.quiet b⟩, b.any _⟩
  ·rw [h6]
   have hs := h.sh _ (List.getElem_mem hi)
   have hset : os[i].slots.set 0 m = (⟨m, T.arr, T.prs⟩ : Tb).slots := by rw [hsl]; rfl
   have hlen := hs.len
   have hcount : ∀ x, cR x (⟨m, T.arr, T.prs⟩ : Tb).slots + cR x (T.met :: ex) = cR x os[i].slots + cR x (m :: ex) := fun x => by
    rw [hsl, cR_slots, cR_slots, cR_cons, cR_cons]; simp only; omega
   have hcn := h.cnt i hi
   have hW : TWo (swapT G ((i : Int) + 1) 0 m) (os.set i { os[i] with slots := os[i].slots.set 0 m }) (T.met :: ex) B C :=
    h.put hi (o := { os[i] with slots := os[i].slots.set 0 m }) (by simp [swapT, h.obj hi]) rfl rfl rfl h.bf rfl
     ⟨hs.kd, hs.tl, hs.tn, hs.mrk, .inr ⟨h6, _, hset, hg, hmo, .inr hm6⟩, by show (os[i].slots.set 0 m).length ≤ _; rw [List.length_set]; exact hlen⟩ (Nat.le_refl _)
     (fun w hw => by
      rcases List.mem_cons.1 hw with rfl | hw
      ·exact hmt
      ·exact h.exo w (List.mem_cons_of_mem _ hw)) (by simp only [List.length_cons]; omega) h.bl h.cl
     (by
      have := hcount ((i : Int) + 1)
      show os[i].count = 1 + (cntI ((i : Int) + 1) (allRefs os) + cR ((i : Int) + 1) (os[i].slots.set 0 m) - cR ((i : Int) + 1) os[i].slots) + cR ((i : Int) + 1) (T.met :: ex)
      rw [hset]; omega)
     fun j hj => by
      have := hcount ((j : Int) + 1)
      show cR ((j : Int) + 1) (os[i].slots.set 0 m) + _ = _
      rw [hset]; exact this
   have hbf := h.bf
   have hcl := h.cl
   refine (setmeta_t F hH hT (.inr ⟨Tm, hm6, hTm⟩) (h.there hmo) ?_ (by omega)).mono ?_
   ·intro hr
    have ho := hW.exo T.met (by simp)
    obtain ⟨j, hj, e1, e2⟩ := ho.at_ hr
    have hc := hW.cnt j hj
    have e3 : rv ((j : Int) + 1) T.met = 1 := by unfold rv; rw [if_pos ⟨hr, e1⟩]
    rw [cR_cons, e3] at hc
    have h0 := (hW.total ((j : Int) + 1)).1
    have h00 := cR_nonneg ((j : Int) + 1) ex
    have hcc := hW.count hj
    have h6' : T.met.k = 6 := hmt6.resolve_left fun e => by rw [e] at hr; exact absurd hr (by decide)
    refine ⟨_, by rw [e1]; exact hW.obj hj, e2, by rw [e2, h6']; decide, by omega, by omega⟩
   ·rintro r M' ⟨rfl, hH', b⟩
    obtain ⟨os', h', hk'⟩ := hW.dropG (fun hr => by
     have h6' : T.met.k = 6 := hmt6.resolve_left fun e => by rw [e] at hr; exact absurd hr (by decide)
     rw [h6']; decide) hC
    exact ⟨.inl ⟨rfl, _, os', hH', h', hk'.trans (ks_set os hi rfl)⟩, b⟩
end
end Go.Proofs.Ythpnhdopheofcaa
end
section
namespace Go.Proofs.Ythpnhdopheofcaa
open Go.Dx
variable {tbl : Nat → Option CFunc}
theorem wrap8 : ∀ a : Nat, a < 256 → (kindOf 4).wrap (a : Int) = (a : Int) := by
 intro a ha
 have h : ∀ a : Fin 256, (kindOf 4).wrap ((a.val : Nat) : Int) = ((a.val : Nat) : Int) := by decide +kernel
 exact h ⟨a, ha⟩
theorem rem8 {a k : Nat} (hk : 0 < k) : arithI .rem 4 (a : Int) (k : Int) = some (.int 4 ((a % k : Nat) : Int)) := by
 show (if (k : Int) = 0 then none else some (AV.int 4 ((a : Int).tmod k))) = _
 rw [if_neg (by omega), Int.tmod_eq_emod_of_nonneg (by omega)]; rfl
theorem rem64 {a k : Nat} (hk : 0 < k) : arithI .rem 3 (a : Int) (k : Int) = some (.int 3 ((a % k : Nat) : Int)) := by
 show (if (k : Int) = 0 then none else some (AV.int 3 ((a : Int).tmod k))) = _
 rw [if_neg (by omega), Int.tmod_eq_emod_of_nonneg (by omega)]; rfl
theorem quo8 {a k : Nat} (ha : a < 256) (hk : 0 < k) : arithI .quo 4 (a : Int) (k : Int) = some (.int 4 ((a / k : Nat) : Int)) := by
 show (if (k : Int) = 0 then none else some (AV.int 4 ((kindOf 4).wrap ((a : Int).tdiv k)))) = _
 rw [if_neg (by omega), Int.tdiv_eq_ediv_of_nonneg (by omega)]
 have h := wrap8 (a / k) (Nat.lt_of_le_of_lt (Nat.div_le_self _ _) ha)
 have e : (a : Int) / (k : Int) = ((a / k : Nat) : Int) := rfl
 rw [e, h]
def handL (ks : List Int) : List Vl := ks.mapIdx fun i k => ⟨k, (i : Int) + 1⟩
theorem hand_len (ks : List Int) : (handL ks).length = ks.length := by simp [handL]
theorem hand_at (ks : List Int) {i : Nat} (hi : i < ks.length) : (handL ks)[i]'(by rw [hand_len]; exact hi) = ⟨ks[i], (i : Int) + 1⟩ := by simp [handL]
theorem hand_snoc (ks : List Int) (k : Int) : handL (ks ++ [k]) = handL ks ++ [⟨k, (ks.length : Int) + 1⟩] := by simp [handL, List.mapIdx_append]
theorem num42 (h : tbl 42 = some cf42) {M : Mem} (n : Int) : CallW tbl 42 (.cons (.int 3 n) .nil) M fun r M' => r = .ret (VlA ⟨3, n⟩) ∧ But (fun _ => False) M M' := by
 refine CallW.wf fun hw => ?_
 refine CallW.intro h rfl (fr := .nod (.val .leaf (.int 3 n) .leaf) .leaf) rfl ?_
 simp only [go_sem, cf42, VlA]
 exact But.fill hw (.cells [.int 3 0, .int 3 0] false) (.cells [.int 3 3, .int 3 n] false)
theorem TWo.hand {G : Hp} {os : List Ob} {ex : List Vl} {B C : Nat} (h : TWo G os ex B C) {i : Nat} (hi : i < os.length) : okK (ksO os) ⟨os[i].kind, (i : Int) + 1⟩ ∧ keyV ⟨os[i].kind, (i : Int) + 1⟩ = true ∧ (⟨os[i].kind, (i : Int) + 1⟩ : Vl) ≠ ⟨1, 0⟩ := by
 have hk := (h.sh _ (List.getElem_mem hi)).kd
 have hle := h.le
 generalize hkd : os[i].kind = kd at *
 have hm : mayV ⟨kd, (i : Int) + 1⟩ = true := by
  simp only [mayV]
  rw [if_neg (by omega), if_neg (by omega), if_neg (by omega), if_neg (by omega)]
  simp only [Bool.and_eq_true, decide_eq_true_eq]
  omega
 refine ⟨⟨hm, by show kd ≠ 0; omega, fun _ => ⟨i, by rw [ks_at os hi, hkd], rfl⟩⟩, ?_, fun e => ?_⟩
 ·simp only [keyV, hm, Bool.and_true, decide_eq_true_eq]; omega
 ·have := congrArg Vl.k e
  simp only at this
  omega
section
variable {M : Mem} {hp : Pos} {P : Pos → Prop} {G : Hp} {os : List Ob} {ex : List Vl} {B C : Nat}
theorem tpick (F : TcT tbl) (h66 : tbl 66 = some cf66) (h42 : tbl 42 = some cf42) {hv : AV} {n : Nat} (hH : HeapIs M hp P G) (h : TWo G os ex B C) (hs : SlIs M hv 2 (VlL (handL (ksO os)))) (hn : n < 256) (hx : ex.length ≤ 90) :
  CallW tbl 66 (.cons (.ptr hp 0) (.cons hv (.cons (.int 4 n) .nil))) M fun r M' => (∃ v G' os', r = .ret (VlA v) ∧ HeapIs M' hp P G' ∧ TWo G' os' (v :: ex) B C ∧ ksO os' = ksO os ∧ keyV v = true ∧ v ≠ ⟨1, 0⟩) ∧ But (fun p => ¬ P p) M M' := by
 refine CallW.wf fun hw => ?_
 have hlen := hs.len
 rw [vlL_len, hand_len, ks_len] at hlen
 refine CallW.intro h66 rfl (fr := .nod (.val (.val .leaf (.int 4 n) .leaf) (.ptr hp 0) .leaf) (.val .leaf hv .leaf)) rfl ?_
 have b1 := But.new (S := fun _ => False) hw (.cells [.int 3 0, .int 3 0] false)
 have w1 := hw.new (.cells [.int 3 0, .int 3 0] false)
 have x1 : (M.new (.cells [.int 3 0, .int 3 0] false)).get M.next = some (.cells [.int 3 0, .int 3 0] false) := by simp [Mem.new]
 have hH1 := hH.wide b1 (q := M.next) (Nat.le_refl _) (by show M.next.num < M.next.succ.num; rw [Pos.num_succ]; omega)
 have hlo : ∀ p, P p → p.num < M.next.num := fun p hp => by obtain ⟨_, _, _, h2, _⟩ := hH; exact (h2 p hp).2
 have r3 : arithI .rem 4 (n : Int) 3 = some (.int 4 ((n % 3 : Nat) : Int)) := rem8 (k := 3) (by omega)
 have q3 : arithI .quo 4 (n : Int) 3 = some (.int 4 ((n / 3 : Nat) : Int)) := quo8 (k := 3) hn (by omega)
 have r8 : arithI .rem 4 ((n / 3 : Nat) : Int) 8 = some (.int 4 ((n / 3 % 8 : Nat) : Int)) := rem8 (k := 8) (by omega)
 have e1 : (kindOf 3).wrap ((n / 3 % 8 : Nat) : Int) = ((n / 3 % 8 : Nat) : Int) := wrap64 (by omega) (by omega)
 have e2 : IntKind.i64.wrap (((n / 3 % 8 : Nat) : Int) - 1) = ((n / 3 % 8 : Nat) : Int) - 1 := wrap64 (by omega) (by omega)
 have e3 : (kindOf 3).wrap ((n / 3 : Nat) : Int) = ((n / 3 : Nat) : Int) := wrap64 (by omega) (by omega)
 have hs1 := hs.old b1.old
 generalize hM1 : M.new (.cells [.int 3 0, .int 3 0] false) = M1 at *
 have fin : ∀ (v : Vl) (M2 : Mem), M2.wf → (∃ G' os', HeapIs M2 hp (fun p => P p ∨ p = M.next) G' ∧ TWo G' os' (v :: ex) B C ∧ ksO os' = ksO os) → But (fun p => ¬ (P p ∨ p = M.next)) M1 M2 → ∀ c, (∃ G' os', HeapIs (M2.put M.next c) hp P G' ∧ TWo G' os' (v :: ex) B C ∧ ksO os' = ksO os) ∧ But (fun p => ¬ P p) M (M2.put M.next c) := by
  intro v M2 w2 ⟨G', os', h1, h2, h3⟩ b2 c
  have bp : But (fun p => p = M.next) M2 (M2.put M.next c) := But.put (S := fun p => p = M.next) (p := M.next) _ rfl _
  exact ⟨⟨G', os', (h1.frame (bp.mono fun p e => .inr e)).less fun p h => .inl h, h2, h3⟩, ((b1.any _).trans (b2.mono fun p e h => e (.inl h))).trans (bp.mono fun p e h => by have := hlo p h; rw [e] at this; omega)⟩
 have number : TWo G os (⟨3, ((n / 3 % 8 : Nat) : Int) - 1⟩ :: ex) B C := by
  refine { h with cnt := fun i hi => ?_, exo := fun w hw => ?_, exl := ?_ }
  ·rw [cR_cons, rv_no (by simp [refV]), h.cnt i hi]; omega
  ·rcases List.mem_cons.1 hw with rfl | hw
   ·exact ok_num _ _
   ·exact h.exo w hw
  ·simp only [List.length_cons]; omega
 by_cases hz : n % 3 = 0
 ·have g : (((n % 3 : Nat) : Int) == 0) = true := by rw [hz]; rfl
  simp only [go_sem, cf66, r3, g, q3, r8, e1, e2, hM1]
  refine (num42 h42 _).use ?_
  rintro r M2 w2 ⟨rfl, b2⟩
  have x2 := b2.get _ _ id x1
  obtain ⟨f1, f2⟩ := fin _ M2 w2 ⟨G, os, hH1.quiet b2, number, rfl⟩ (b2.any _) (.cells [.int 3 3, .int 3 (((n / 3 % 8 : Nat) : Int) - 1)] false)
  simp only [go_sem, VlA, x2]
  obtain ⟨G', os', f3, f4, f5⟩ := f1
  exact ⟨⟨⟨3, ((n / 3 % 8 : Nat) : Int) - 1⟩, G', os', rfl, f3, f4, f5, by simp [keyV, mayV], by simp⟩, f2⟩
 ·have g : (((n % 3 : Nat) : Int) == 0) = false := by simp; omega
  by_cases hz2 : os.length = 0
  ·have g2 : ((os.length : Int) == 0) = true := by rw [hz2]; rfl
   simp only [go_sem, cf66, r3, g, hlen, g2, q3, r8, e1, e2, hM1]
   refine (num42 h42 _).use ?_
   rintro r M2 w2 ⟨rfl, b2⟩
   have x2 := b2.get _ _ id x1
   obtain ⟨f1, f2⟩ := fin _ M2 w2 ⟨G, os, hH1.quiet b2, number, rfl⟩ (b2.any _) (.cells [.int 3 3, .int 3 (((n / 3 % 8 : Nat) : Int) - 1)] false)
   simp only [go_sem, VlA, x2]
   obtain ⟨G', os', f3, f4, f5⟩ := f1
   exact ⟨⟨⟨3, ((n / 3 % 8 : Nat) : Int) - 1⟩, G', os', rfl, f3, f4, f5, by simp [keyV, mayV], by simp⟩, f2⟩
  ·have g2 : ((os.length : Int) == 0) = false := by rw [beq_eq_false_iff_ne]; omega
   have hpos : 0 < os.length := by omega
   have rl : arithI .rem 3 ((n / 3 : Nat) : Int) (os.length : Int) = some (.int 3 ((n / 3 % os.length : Nat) : Int)) := rem64 hpos
   have hi : n / 3 % os.length < os.length := Nat.mod_lt _ hpos
   generalize hii : n / 3 % os.length = i at *
   obtain ⟨p, po, a1, a2⟩ := vl_at hs1 (i := i) (by rw [hand_len, ks_len]; exact hi)
   rw [hand_len, ks_len] at a1
   have hat : (handL (ksO os))[i]'(by rw [hand_len, ks_len]; exact hi) = ⟨os[i].kind, (i : Int) + 1⟩ := by
    rw [hand_at _ (by rw [ks_len]; exact hi)]; simp [ksO]
   rw [hat] at a2
   obtain ⟨k1, k2, k3⟩ := h.hand hi
   generalize os[i].kind = kd at *
   have b2 := But.fill w1 (.cells [.int 3 0, .int 3 0] false) (.cells [.int 3 kd, .int 3 ((i : Int) + 1)] false)
   have w2 := w1.fill (.cells [.int 3 0, .int 3 0] false) (.cells [.int 3 kd, .int 3 ((i : Int) + 1)] false)
   have x2 := b2.get _ _ id x1
   have y2 : ((M1.new (.cells [.int 3 0, .int 3 0] false)).put M1.next (.cells [.int 3 kd, .int 3 ((i : Int) + 1)] false)).get M1.next = some (.cells [.int 3 kd, .int 3 ((i : Int) + 1)] false) := by simp [Mem.put]
   have hH2 := hH1.wide b2 (q := M1.next) (Nat.le_refl _) (by show M1.next.num < M1.next.succ.num; rw [Pos.num_succ]; omega)
   simp only [go_sem, cf66, r3, g, hlen, g2, q3, e3, rl, a1, a2, hi, hM1]
   refine (tkeep F hH2 h (v := ⟨kd, (i : Int) + 1⟩) k1 (by omega)).use ?_
   rintro r M4 w4 ⟨rfl, ⟨G', os', q1, q2, q3⟩, b4⟩
   have x4 := b4.get _ _ (fun e => e (.inl (.inr rfl))) x2
   have y4 := b4.get _ _ (fun e => e (.inr rfl)) y2
   obtain ⟨f1, f2⟩ := fin ⟨kd, (i : Int) + 1⟩ M4 w4 ⟨G', os', q1.less fun p h => .inl h, q2, q3⟩ ((b2.any _).trans (b4.mono fun p e h => e (.inl h))) (.cells [.int 3 kd, .int 3 ((i : Int) + 1)] false)
   simp only [go_sem, x4, y4]
   obtain ⟨G'', os'', f3, f4, f5⟩ := f1
   exact ⟨⟨⟨kd, (i : Int) + 1⟩, G'', os'', rfl, f3, f4, f5, k2, k3⟩, f2⟩
end
end Go.Proofs.Ythpnhdopheofcaa
end
section
namespace Go.Proofs.Ythpnhdopheofcaa
open Go.Dx
variable {tbl : Nat → Option CFunc}
theorem TWo.perm {G : Hp} {os : List Ob} {ex ex' : List Vl} {B C : Nat} (h : TWo G os ex B C) (hp : ex.Perm ex') : TWo G os ex' B C :=
 { h with cnt := fun i hi => by rw [h.cnt i hi, cR_perm hp], exo := fun v hv => h.exo v (hp.mem_iff.2 hv), exl := by rw [← hp.length_eq]; exact h.exl }
theorem TWo.add0 {G : Hp} {os : List Ob} {ex : List Vl} {B C : Nat} {v : Vl} (h : TWo G os ex B C) (hr : refV v = false) (ho : okK (ksO os) v) (hl : ex.length ≤ 90) : TWo G os (v :: ex) B C := by
 refine { h with cnt := fun i hi => ?_, exo := fun w hw => ?_, exl := ?_ }
 ·rw [cR_cons, rv_no hr, h.cnt i hi]; omega
 ·rcases List.mem_cons.1 hw with rfl | hw
  ·exact ho
  ·exact h.exo w hw
 ·simp only [List.length_cons]; omega
def PY (M0 : Mem) (hv : AV) (R : Pos → Prop) (p : Pos) : Prop := (p.num < M0.next.num ∨ ownP hv p) ∨ R p
structure WY (M0 M : Mem) (hp : Pos) (R : Pos → Prop) (hv : AV) (ks : List Int) (ex : List Vl) (B C : Nat) : Prop where
 wf : M.wf
 st : ∃ G os, HeapIs M hp (PY M0 hv R) G ∧ TWo G os ex B C ∧ ksO os = ks
 hand : OwnSl M hv 2 (VlL (handL ks))
 but : But (fun p => M0.next.num ≤ p.num) M0 M
 fresh : ∀ p, ownP hv p → M0.next.num ≤ p.num
section
variable {M0 M M' : Mem} {hp : Pos} {R : Pos → Prop} {hv : AV} {ks : List Int} {ex ex' : List Vl} {B C B' C' : Nat}
theorem WY.step (h : WY M0 M hp R hv ks ex B C) (hw : M'.wf) (hs : ∃ G os, HeapIs M' hp (PY M0 hv R) G ∧ TWo G os ex' B' C' ∧ ksO os = ks) (b : But (fun p => ¬ PY M0 hv R p) M M') : WY M0 M' hp R hv ks ex' B' C' :=
 ⟨hw, hs, h.hand.old b fun p hp e => e (.inl (.inr hp)), h.but.trans (b.mono fun p e => by have : ¬ p.num < M0.next.num := fun h' => e (.inl (.inl h')); omega), h.fresh⟩
theorem WY.quiet (h : WY M0 M hp R hv ks ex B C) (hw : M'.wf) (b : But (fun _ => False) M M') : WY M0 M' hp R hv ks ex B C := by
 obtain ⟨G, os, h1, h2, h3⟩ := h.st
 exact h.step hw ⟨G, os, h1.quiet b, h2, h3⟩ (b.any _)
theorem WY.wide (h : WY M0 M hp R hv ks ex B C) (hw : M'.wf) (b : But (fun _ => False) M M') {q : Pos} (h1 : M.next.num ≤ q.num) (h2 : q.num < M'.next.num) : WY M0 M' hp (fun p => R p ∨ p = q) hv ks ex B C := by
 obtain ⟨G, os, g1, g2, g3⟩ := h.st
 have hx := h.quiet hw b
 exact ⟨hw, ⟨G, os, (g1.wide b h1 h2).less fun p hp => by
  rcases hp with hp | hp | hp
  ·exact .inl (.inl hp)
  ·exact .inl (.inr hp)
  ·exact .inr hp, g2, g3⟩, hx.hand, hx.but, h.fresh⟩
theorem WY.less (h : WY M0 M hp R hv ks ex B C) {R' : Pos → Prop} (hr : ∀ p, R' p → R p) : WY M0 M hp R' hv ks ex B C := by
 obtain ⟨G, os, g1, g2, g3⟩ := h.st
 exact ⟨h.wf, ⟨G, os, g1.less fun p hp => hp.imp id (hr p), g2, g3⟩, h.hand, h.but, h.fresh⟩
theorem wf_put {M : Mem} (hw : M.wf) {q : Pos} (hq : q.num < M.next.num) (c : MB) : (M.put q c).wf := fun p b hp => by
 show p.num < M.next.num
 simp only [Mem.put] at hp
 split at hp
 ·rename_i e; rw [e]; exact hq
 ·exact hw p b hp
theorem WY.slot (h : WY M0 M hp R hv ks ex B C) {q : Pos} (hq : R q) (hq0 : M0.next.num ≤ q.num) (hqh : ¬ ownP hv q) (hlt : q.num < M.next.num) (c : MB) : WY M0 (M.put q c) hp R hv ks ex B C := by
 obtain ⟨G, os, g1, g2, g3⟩ := h.st
 have bp : But (fun p => p = q) M (M.put q c) := But.put (S := fun p => p = q) (p := q) _ rfl _
 exact ⟨wf_put h.wf hlt c, ⟨G, os, g1.frame (bp.mono fun p e => .inr (by rw [e]; exact hq)), g2, g3⟩, h.hand.old bp fun p hp e => hqh (by rw [← e]; exact hp), h.but.trans (bp.mono fun p e => by rw [e]; exact hq0), h.fresh⟩
theorem WY.len (h : WY M0 M hp R hv ks ex B C) : slLen hv = some ks.length := by
 have := h.hand.rows.len; rw [vlL_len, hand_len] at this; exact this
theorem WY.up (h : WY M0 M hp R hv ks ex B C) (hB : B ≤ B') (hC : C ≤ C') (hb : B' ≤ 100) (hc : C' ≤ 2000) {R' : Pos → Prop} (hr : ∀ p, R' p → R p) : WY M0 M hp R' hv ks ex B' C' := by
 obtain ⟨G, os, g1, g2, g3⟩ := (h.less hr).st
 exact ⟨h.wf, ⟨G, os, g1, g2.up hB hC hb hc, g3⟩, h.hand, h.but, h.fresh⟩
theorem hand_push {M1 : Mem} {G : Hp} (w1 : M1.wf) (hO : OwnSl M1 hv 2 (VlL (handL ks))) (hH : HeapIs M1 hp (PY M0 hv R) G) (hn : M0.next.num ≤ M1.next.num) (hf : ∀ p, ownP hv p → M0.next.num ≤ p.num) (hl : ks.length ≤ 100) (kd : Int) :
  ∃ v' M2, appO (M1.new (.cells [.int 3 kd, .int 3 ((ks.length : Int) + 1)] false)) 2 hv (.slice M1.next 0 1 1) = some (v', M2) ∧ M2.wf ∧ OwnSl M2 v' 2 (VlL (handL (ks ++ [kd]))) ∧ HeapIs M2 hp (PY M0 v' R) G ∧ But (fun p => M0.next.num ≤ p.num) M1 M2 ∧ (∀ p, ownP v' p → M0.next.num ≤ p.num) ∧ isCell v' = true := by
 obtain ⟨v', M2, h1, h2, h3, h4, h5⟩ := hO.push w1 (n := 1) (c := 1) (X := [VlR ⟨kd, (ks.length : Int) + 1⟩]) (x := [.int 3 kd, .int 3 ((ks.length : Int) + 1)]) rfl rfl (by simp [VlR]) (by simp [VlR, isCell]) (by simp) (by omega) (by rw [vlL_len, hand_len]; simp only [most, List.length_cons, List.length_nil]; omega) (vlL_cells _)
 have e : VlL (handL ks) ++ [VlR ⟨kd, (ks.length : Int) + 1⟩] = VlL (handL (ks ++ [kd])) := by rw [hand_snoc]; simp [VlL]
 rw [e] at h2
 have hne : VlL (handL (ks ++ [kd])) ≠ [] := fun e => by have := congrArg List.length e; rw [vlL_len, hand_len] at this; simp at this
 obtain ⟨q, hq⟩ : ∃ q, v' = .oslice q 0 (VlL (handL (ks ++ [kd]))).length 2 := by
  rcases h2.2 with ⟨_, e⟩ | ⟨q, e, _⟩
  ·exact absurd e hne
  ·exact ⟨q, e⟩
 have hown : ∀ p, ownP v' p ↔ p = q := fun p => ⟨fun ⟨n, s, e⟩ => (by rw [hq] at e; cases e; rfl), fun e => by subst e; exact ⟨_, _, hq⟩⟩
 have hq1 := h5 q ((hown q).2 rfl)
 have hq2 := h2.lt h4 ((hown q).2 rfl)
 have br : But (fun _ => False) M1 ⟨M2.next, M1.get⟩ := ⟨h3.next, fun _ _ _ h => h⟩
 have bf : But (ownP hv) (⟨M2.next, M1.get⟩ : Mem) M2 := ⟨Nat.le_refl _, h3.get⟩
 have hW := (hH.wide br hq1 hq2).frame (bf.mono fun p e => .inl (.inl (.inr e)))
 refine ⟨v', M2, h1, h4, h2, hW.less fun p hp => ?_, h3.mono hf, fun p e => Nat.le_trans hn (h5 p e), by rw [hq]; rfl⟩
 rcases hp with (hp | hp) | hp
 ·exact .inl (.inl (.inl hp))
 ·exact .inr ((hown p).1 hp)
 ·exact .inl (.inr hp)
end
structure FY (fr : Tr AV) (sv hv : AV) (hp : Pos) (k : Nat) : Prop where
 f1 : fr.get (.o .h) = some sv
 f2 : fr.get (.i (.o .h)) = some (.ptr hp 0)
 f3 : fr.get (.o (.i .h)) = some hv
 f4 : fr.get (.i (.i .h)) = some (.int 3 k)
def l2C : CCode → CCode
 | .seq a _ => a
 | .block _ c => c
 | .loop c => c
 | _ => .skip
def r2C : CCode → CCode
 | .seq _ b => b
 | _ => .skip
def loops12 : CCode := r2C (r2C (r2C (r2C cf12.body)))
def body12 : CCode := l2C (l2C (r2C (l2C loops12)))
def in12 : CCode := l2C (l2C (r2C body12))
def act12 : CCode := l2C (r2C in12)
def audit12 : CCode := r2C (r2C in12)
theorem body12_eq : cf12.body = .seq (l2C cf12.body) (.seq (l2C (r2C cf12.body)) (.seq (l2C (r2C (r2C cf12.body))) (.seq (l2C (r2C (r2C (r2C cf12.body)))) loops12))) := rfl
theorem loops12_eq : loops12 = .seq (.seq (l2C (l2C loops12)) (.block 0 (.loop (.seq (l2C body12) (.seq (.block 1 (.seq (l2C in12) (.seq act12 audit12))) (r2C (r2C body12))))))) (r2C loops12) := rfl
def eC : CCode → CCode
 | .cond _ _ b => b
 | _ => .skip
def tC : CCode → CCode
 | .cond _ a _ => a
 | _ => .skip
def cC : CCode → Opd
 | .cond x _ _ => x
 | _ => .loc 0
def put12 : CCode := r2C (r2C (eC (r2C (eC (r2C (l2C act12))))))
theorem act12_eq : act12 = .block 2 (.seq (l2C (l2C act12)) (.cond (cC (r2C (l2C act12))) (tC (r2C (l2C act12))) (.seq (l2C (eC (r2C (l2C act12)))) (.cond (cC (r2C (eC (r2C (l2C act12))))) (tC (r2C (eC (r2C (l2C act12))))) (.seq (l2C (eC (r2C (eC (r2C (l2C act12)))))) (.seq (l2C (r2C (eC (r2C (eC (r2C (l2C act12))))))) put12)))))) := rfl
set_option maxHeartbeats 4000000 in
theorem put12_x (F : TcT tbl) {M0 M : Mem} {hp xb kb vb : Pos} {k C : Nat} {fr : Tr AV} {sv hv : AV} {ks : List Int} {a t kk vv : Nat} {kV vV : Vl} {R : Pos → Prop}
  (hF : FY fr sv hv hp k) (hX : WY M0 M hp R hv ks [vV, kV] k C) (hpos : 0 < ks.length) (hk : k ≤ 59) (hC : C ≤ 1000) (hx : M.get xb = some (.cells [.int 4 a, .int 4 t, .int 4 kk, .int 4 vv] false)) (ht : t < 256) (hkx : M.get kb = some (.cells [.int 3 kV.k, .int 3 kV.n] false)) (hvx : M.get vb = some (.cells [.int 3 vV.k, .int 3 vV.n] false)) (hRk : R kb) (hRv : R vb)
  (hkey : keyV kV = true) (f5 : fr.get (.o (.o (.o .h))) = some (.ptr xb 0)) (f6 : fr.get (.o (.i (.o .h))) = some (.ptr kb 0)) (f7 : fr.get (.i (.i (.o .h))) = some (.ptr vb 0)) :
  CCode.wp tbl put12 fr M fun e fr' M' => e = .normal ∧ FY fr' sv hv hp k ∧ WY M0 M' hp (fun _ => False) hv ks [] (k + 1) (C + 3) := by
 have ⟨f1, f2, f3, f4⟩ := hF
 have hlen := hX.len
 have hw := hX.wf
 have rl : arithI .rem 3 (t : Int) (ks.length : Int) = some (.int 3 ((t % ks.length : Nat) : Int)) := rem64 hpos
 have hi : t % ks.length < ks.length := Nat.mod_lt _ hpos
 generalize t % ks.length = i at *
 have et : (kindOf 3).wrap (t : Int) = (t : Int) := wrap64 (by omega) (by omega)
 have hat : (handL ks)[i]'(by rw [hand_len]; exact hi) = ⟨ks[i], (i : Int) + 1⟩ := hand_at ks hi
 obtain ⟨p, po, a1, a2⟩ := vl_at hX.hand.rows (i := i) (by rw [hand_len]; exact hi)
 rw [hand_len] at a1
 rw [hat] at a2
 obtain ⟨G, os, hH, hT, hks⟩ := hX.st
 have hi2 : i < os.length := by rw [← ks_len, hks]; exact hi
 have hki : os[i].kind = ks[i] := by
  have h1 := ks_at os hi2
  rw [hks, List.getElem?_eq_getElem hi] at h1
  exact (Option.some.inj h1).symm
 have cput := tput F hH hT hi2 hkey (by omega) (by omega) (by simp)
 rw [hki] at cput
 simp only [go_sem, put12, act12, in12, body12, loops12, l2C, r2C, eC, cf12, f1, f2, f3, f4, f5, f6, f7, hlen, hx, hkx, hvx, et, rl, a1, a2, hi]
 refine cput.use ?_
 rintro r M3 w3 ⟨⟨rfl, G3, os3, hH3, hT3, hk3⟩ | ⟨rfl, hH3⟩, b3⟩
 ·have X3 := hX.step w3 ⟨G3, os3, hH3, hT3, hk3.trans hks⟩ b3
  simp only [go_sem]
  exact ⟨⟨by simp [Tr.get_set, f1], by simp [Tr.get_set, f2], by simp [Tr.get_set, f3], by simp [Tr.get_set, f4]⟩, X3.less fun p e => e.elim⟩
 ·have y3 := b3.get _ _ (fun e => e (.inr hRk)) hkx
  have z3 := b3.get _ _ (fun e => e (.inr hRv)) hvx
  have X3 := hX.step w3 ⟨G, os, hH3, hT.perm (List.Perm.swap _ _ _), hks⟩ b3
  simp only [go_sem, VlA, y3, f2, f6]
  refine (tdrop F hH3 (hT.perm (List.Perm.swap _ _ _)) (by omega)).use ?_
  rintro r M4 w4 ⟨rfl, ⟨G4, os4, hH4, hT4, hk4⟩, b4⟩
  have X4 := X3.step w4 ⟨G4, os4, hH4, hT4, hk4.trans hks⟩ b4
  have z4 := b4.get _ _ (fun e => e (.inr hRv)) z3
  simp only [go_sem, VlA, z4, f2, f7]
  refine (tdrop F hH4 hT4 (by omega)).use ?_
  rintro r M5 w5 ⟨rfl, ⟨G5, os5, hH5, hT5, hk5⟩, b5⟩
  have X5 := X4.step w5 ⟨G5, os5, hH5, hT5, hk5.trans (hk4.trans hks)⟩ b5
  simp only [go_sem]
  exact ⟨⟨by simp [Tr.get_set, f1], by simp [Tr.get_set, f2], by simp [Tr.get_set, f3], by simp [Tr.get_set, f4]⟩, X5.up (by omega) (by omega) (by omega) (by omega) (fun p e => e.elim)⟩
set_option maxHeartbeats 4000000 in
theorem act12_x (F : TcT tbl) (h66 : tbl 66 = some cf66) (h42 : tbl 42 = some cf42) (h43 : tbl 43 = some cf43) {M0 M : Mem} {hp xb : Pos} {k : Nat} {fr : Tr AV} {sv hv : AV} {ks : List Int} {a t kk vv : Nat}
  (hF : FY fr sv hv hp k) (hX : WY M0 M hp (fun p => p = xb) hv ks [] k (8 * k)) (hkl : ks.length ≤ k) (hk : k ≤ 59) (hx : M.get xb = some (.cells [.int 4 a, .int 4 t, .int 4 kk, .int 4 vv] false)) (ha : a < 256) (ht : t < 256) (hkk : kk < 256) (hvv : vv < 256) (hf : fr.get (.o (.o (.o .h))) = some (.ptr xb 0)) :
  CCode.wp tbl act12 fr M fun e fr' M' => e = .normal ∧ ∃ hv' ks', FY fr' sv hv' hp k ∧ WY M0 M' hp (fun _ => False) hv' ks' [] (k + 1) (8 * (k + 1)) ∧ ks'.length ≤ k + 1 := by
 have ⟨f1, f2, f3, f4⟩ := hF
 have hlen := hX.len
 obtain ⟨G, os, hH, hT, hks⟩ := hX.st
 have hol : os.length = ks.length := by rw [← hks, ks_len]
 have hw := hX.wf
 have ra : arithI .rem 4 (a : Int) 8 = some (.int 4 ((a % 8 : Nat) : Int)) := rem8 (k := 8) (by omega)
 have rt : arithI .rem 4 (t : Int) 2 = some (.int 4 ((t % 2 : Nat) : Int)) := rem8 (k := 2) (by omega)
 by_cases h2 : ks.length < 2
 ·have g1 : decide ((ks.length : Int) < 2) = true := by simp only [decide_eq_true_eq]; omega
  by_cases ht2 : t % 2 = 0
  ·have g2 : (((t % 2 : Nat) : Int) == 0) = true := by rw [ht2]; rfl
   rw [act12_eq]
   simp only [go_sem, act12, in12, body12, loops12, l2C, r2C, eC, tC, cC, cf12, f1, f2, f3, f4, hf, hx, hlen, g1, rt, g2]
   refine (ttnew F hH hT (by omega)).use ?_
   rintro r M1 w1 ⟨rfl, ⟨G1, os1, hH1, hT1, hk1⟩, b1⟩
   have hO1 := hX.hand.old b1 fun p hp e => e (.inl (.inr hp))
   have n1 := Nat.le_trans hX.but.next b1.next
   obtain ⟨v2, M2, p2, w2, hO2, hH2, b2, hf2, hc2⟩ := hand_push (kd := 6) w1 hO1 hH1 n1 hX.fresh (by omega)
   rw [← hol] at p2
   simp only [go_sem, VlA, p2, f3, hc2]
   refine ⟨v2, ks ++ [6], ⟨by simp [Tr.get_set, f1], by simp [Tr.get_set, f2], by simp [Tr.get_set], by simp [Tr.get_set, f4]⟩, ⟨w2, ⟨G1, os1, hH2.less fun p hp => hp.imp id False.elim, hT1.up (by omega) (by omega) (by omega) (by omega), by rw [hk1, hks]⟩, hO2, (hX.but.trans (b1.mono fun p e => by have : ¬ p.num < M0.next.num := fun h' => e (.inl (.inl h')); omega)).trans b2, hf2⟩, by rw [List.length_append, List.length_singleton]; omega⟩
  ·have g2 : (((t % 2 : Nat) : Int) == 0) = false := by rw [beq_eq_false_iff_ne]; omega
   have q2 : arithI .quo 4 (t : Int) 2 = some (.int 4 ((t / 2 : Nat) : Int)) := quo8 (k := 2) ht (by omega)
   have r5 : arithI .rem 4 ((t / 2 : Nat) : Int) 5 = some (.int 4 ((t / 2 % 5 : Nat) : Int)) := rem8 (k := 5) (by omega)
   have hlt5 : t / 2 % 5 < 5 := Nat.mod_lt _ (by omega)
   generalize t / 2 % 5 = t5 at *
   have e5 : (kindOf 3).wrap (t5 : Int) = (t5 : Int) := wrap64 (by omega) (by omega)
   have a5 : IntKind.i64.wrap (5 + (t5 : Int)) = 5 + (t5 : Int) := wrap64 (by omega) (by omega)
   rw [act12_eq]
   simp only [go_sem, act12, in12, body12, loops12, l2C, r2C, eC, tC, cC, cf12, f1, f2, f3, f4, hf, hx, hlen, g1, rt, g2, q2, r5, e5, a5]
   refine (tmake F hH hT (k := 5 + (t5 : Int)) (by omega) (by omega)).use ?_
   rintro r M1 w1 ⟨rfl, ⟨G1, os1, hH1, hT1, hk1⟩, b1⟩
   have hO1 := hX.hand.old b1 fun p hp e => e (.inl (.inr hp))
   have n1 := Nat.le_trans hX.but.next b1.next
   obtain ⟨v2, M2, p2, w2, hO2, hH2, b2, hf2, hc2⟩ := hand_push (kd := 5 + (t5 : Int)) w1 hO1 hH1 n1 hX.fresh (by omega)
   rw [← hol] at p2
   simp only [go_sem, VlA, p2, f3, hc2]
   refine ⟨v2, ks ++ [5 + (t5 : Int)], ⟨by simp [Tr.get_set, f1], by simp [Tr.get_set, f2], by simp [Tr.get_set], by simp [Tr.get_set, f4]⟩, ⟨w2, ⟨G1, os1, hH2.less fun p hp => hp.imp id False.elim, hT1.up (by omega) (by omega) (by omega) (by omega), by rw [hk1, hks]⟩, hO2, (hX.but.trans (b1.mono fun p e => by have : ¬ p.num < M0.next.num := fun h' => e (.inl (.inl h')); omega)).trans b2, hf2⟩, by rw [List.length_append, List.length_singleton]; omega⟩
 ·have g1 : decide ((ks.length : Int) < 2) = false := by simp only [decide_eq_false_iff_not]; omega
  by_cases h8 : a % 8 = 0
  ·have g8 : (((a % 8 : Nat) : Int) == 0) = true := by rw [h8]; rfl
   by_cases ht2 : t % 2 = 0
   ·have g2 : (((t % 2 : Nat) : Int) == 0) = true := by rw [ht2]; rfl
    rw [act12_eq]
    simp only [go_sem, act12, in12, body12, loops12, l2C, r2C, eC, tC, cC, cf12, f1, f2, f3, f4, hf, hx, hlen, g1, ra, g8, rt, g2]
    refine (ttnew F hH hT (by omega)).use ?_
    rintro r M1 w1 ⟨rfl, ⟨G1, os1, hH1, hT1, hk1⟩, b1⟩
    have hO1 := hX.hand.old b1 fun p hp e => e (.inl (.inr hp))
    have n1 := Nat.le_trans hX.but.next b1.next
    obtain ⟨v2, M2, p2, w2, hO2, hH2, b2, hf2, hc2⟩ := hand_push (kd := 6) w1 hO1 hH1 n1 hX.fresh (by omega)
    rw [← hol] at p2
    simp only [go_sem, VlA, p2, f3, hc2]
    refine ⟨v2, ks ++ [6], ⟨by simp [Tr.get_set, f1], by simp [Tr.get_set, f2], by simp [Tr.get_set], by simp [Tr.get_set, f4]⟩, ⟨w2, ⟨G1, os1, hH2.less fun p hp => hp.imp id False.elim, hT1.up (by omega) (by omega) (by omega) (by omega), by rw [hk1, hks]⟩, hO2, (hX.but.trans (b1.mono fun p e => by have : ¬ p.num < M0.next.num := fun h' => e (.inl (.inl h')); omega)).trans b2, hf2⟩, by rw [List.length_append, List.length_singleton]; omega⟩
   ·have g2 : (((t % 2 : Nat) : Int) == 0) = false := by rw [beq_eq_false_iff_ne]; omega
    have q2 : arithI .quo 4 (t : Int) 2 = some (.int 4 ((t / 2 : Nat) : Int)) := quo8 (k := 2) ht (by omega)
    have r5 : arithI .rem 4 ((t / 2 : Nat) : Int) 5 = some (.int 4 ((t / 2 % 5 : Nat) : Int)) := rem8 (k := 5) (by omega)
    have hlt5 : t / 2 % 5 < 5 := Nat.mod_lt _ (by omega)
    generalize t / 2 % 5 = t5 at *
    have e5 : (kindOf 3).wrap (t5 : Int) = (t5 : Int) := wrap64 (by omega) (by omega)
    have a5 : IntKind.i64.wrap (5 + (t5 : Int)) = 5 + (t5 : Int) := wrap64 (by omega) (by omega)
    rw [act12_eq]
    simp only [go_sem, act12, in12, body12, loops12, l2C, r2C, eC, tC, cC, cf12, f1, f2, f3, f4, hf, hx, hlen, g1, ra, g8, rt, g2, q2, r5, e5, a5]
    refine (tmake F hH hT (k := 5 + (t5 : Int)) (by omega) (by omega)).use ?_
    rintro r M1 w1 ⟨rfl, ⟨G1, os1, hH1, hT1, hk1⟩, b1⟩
    have hO1 := hX.hand.old b1 fun p hp e => e (.inl (.inr hp))
    have n1 := Nat.le_trans hX.but.next b1.next
    obtain ⟨v2, M2, p2, w2, hO2, hH2, b2, hf2, hc2⟩ := hand_push (kd := 5 + (t5 : Int)) w1 hO1 hH1 n1 hX.fresh (by omega)
    rw [← hol] at p2
    simp only [go_sem, VlA, p2, f3, hc2]
    refine ⟨v2, ks ++ [5 + (t5 : Int)], ⟨by simp [Tr.get_set, f1], by simp [Tr.get_set, f2], by simp [Tr.get_set], by simp [Tr.get_set, f4]⟩, ⟨w2, ⟨G1, os1, hH2.less fun p hp => hp.imp id False.elim, hT1.up (by omega) (by omega) (by omega) (by omega), by rw [hk1, hks]⟩, hO2, (hX.but.trans (b1.mono fun p e => by have : ¬ p.num < M0.next.num := fun h' => e (.inl (.inl h')); omega)).trans b2, hf2⟩, by rw [List.length_append, List.length_singleton]; omega⟩
  ·have g8 : (((a % 8 : Nat) : Int) == 0) = false := by rw [beq_eq_false_iff_ne]; omega
   have hpos : 0 < ks.length := by omega
   have rl : arithI .rem 3 (t : Int) (ks.length : Int) = some (.int 3 ((t % ks.length : Nat) : Int)) := rem64 hpos
   have hi : t % ks.length < ks.length := Nat.mod_lt _ hpos
   generalize t % ks.length = i at *
   have et : (kindOf 3).wrap (t : Int) = (t : Int) := wrap64 (by omega) (by omega)
   have hat : (handL ks)[i]'(by rw [hand_len]; exact hi) = ⟨ks[i], (i : Int) + 1⟩ := hand_at ks hi
   by_cases h81 : a % 8 = 1
   ·have g81 : (((a % 8 : Nat) : Int) == 1) = true := by rw [h81]; rfl
    rw [act12_eq]
    simp only [go_sem, act12, in12, body12, loops12, l2C, r2C, eC, tC, cC, cf12, f1, f2, f3, f4, hf, hx, hlen, g1, ra, g8, g81]
    refine (tpick F h66 h42 hH hT (by rw [hks]; exact hX.hand.rows) hkk (by simp)).use ?_
    rintro r M1 w1 ⟨⟨m, G1, os1, rfl, hH1, hT1, hk1, hkey, hm0⟩, b1⟩
    have X1 : WY M0 M1 hp (fun p => p = xb) hv ks [m] k (8 * k) := hX.step w1 ⟨G1, os1, hH1, hT1, hk1.trans hks⟩ b1
    have b2 := But.fill w1 (.cells [.int 3 0, .int 3 0] false) (.cells [.int 3 m.k, .int 3 m.n] false)
    have w2 := w1.fill (.cells [.int 3 0, .int 3 0] false) (.cells [.int 3 m.k, .int 3 m.n] false)
    have y2 : ((M1.new (.cells [.int 3 0, .int 3 0] false)).put M1.next (.cells [.int 3 m.k, .int 3 m.n] false)).get M1.next = some (.cells [.int 3 m.k, .int 3 m.n] false) := by simp [Mem.put]
    have X2 := X1.wide w2 b2 (q := M1.next) (Nat.le_refl _) (by show M1.next.num < M1.next.succ.num; rw [Pos.num_succ]; omega)
    have x1 := b1.get _ _ (fun e => e (.inr rfl)) hx
    have nx1 := w1.ne x1
    obtain ⟨p, po, a1, a2⟩ := vl_at X1.hand.rows (i := i) (by rw [hand_len]; exact hi)
    have np1 : (p = M1.next) = False := eq_false fun e => by
     have := X1.hand.rows.lt w1 (fun e => by have := congrArg List.length e; rw [vlL_len, hand_len] at this; simp at this; rw [this] at hpos; simp at hpos) a1
     rw [e] at this; omega
    rw [hand_len] at a1
    rw [hat] at a2
    obtain ⟨G2, os2, hH2, hT2, hk2⟩ := X2.st
    have hi2 : i < os2.length := by rw [← ks_len, hk2]; exact hi
    have hki : os2[i].kind = ks[i] := by
     have h1 := ks_at os2 hi2
     rw [hk2, List.getElem?_eq_getElem hi] at h1
     exact (Option.some.inj h1).symm
    have cset := tsetmeta F hH2 hT2 hi2 hm0 (by omega)
    rw [hki] at cset
    simp only [go_sem, VlA, f2, f3, hf, hlen, x1, nx1, np1, et, rl, a1, a2, hi]
    refine cset.use ?_
    rintro r M3 w3 ⟨⟨rfl, G3, os3, hH3, hT3, hk3⟩ | ⟨rfl, hH3⟩, b3⟩
    ·have X3 := X2.step w3 ⟨G3, os3, hH3, hT3, hk3.trans hk2⟩ b3
     simp only [go_sem]
     exact ⟨hv, ks, ⟨by simp [Tr.get_set, f1], by simp [Tr.get_set, f2], by simp [Tr.get_set, f3], by simp [Tr.get_set, f4]⟩, X3.up (by omega) (by omega) (by omega) (by omega) (fun p e => e.elim), by omega⟩
    ·have y3 := b3.get _ _ (fun e => e (.inr (.inr rfl))) y2
     have X3 := X2.step w3 ⟨G2, os2, hH3, hT2, hk2⟩ b3
     simp only [go_sem, VlA, y3, f2]
     refine (tdrop F hH3 hT2 (by omega)).use ?_
     rintro r M4 w4 ⟨rfl, ⟨G4, os4, hH4, hT4, hk4⟩, b4⟩
     have X4 := X3.step w4 ⟨G4, os4, hH4, hT4, hk4.trans hk2⟩ b4
     simp only [go_sem]
     exact ⟨hv, ks, ⟨by simp [Tr.get_set, f1], by simp [Tr.get_set, f2], by simp [Tr.get_set, f3], by simp [Tr.get_set, f4]⟩, X4.up (by omega) (by omega) (by omega) (by omega) (fun p e => e.elim), by omega⟩
   ·have g81 : (((a % 8 : Nat) : Int) == 1) = false := by rw [beq_eq_false_iff_ne]; omega
    rw [act12_eq]
    simp only [go_sem, act12, in12, body12, loops12, l2C, r2C, eC, tC, cC, cf12, f1, f2, f3, f4, hf, hx, hlen, g1, ra, g8, g81]
    have hnx : M.next.num < M.next.succ.num := by rw [Pos.num_succ]; omega
    have hnx2 : M.next.succ.num < M.next.succ.succ.num := by rw [Pos.num_succ (M.next.succ)]; omega
    have wr1 : (⟨M.next.succ, M.get⟩ : Mem).wf := fun p b hp => Nat.lt_trans (hw p b hp) hnx
    have wr2 : (⟨M.next.succ.succ, M.get⟩ : Mem).wf := fun p b hp => Nat.lt_trans (wr1 p b hp) hnx2
    have br1 : But (fun _ => False) M ⟨M.next.succ, M.get⟩ := ⟨Nat.le_of_lt hnx, fun _ _ _ h => h⟩
    have br2 : But (fun _ => False) (⟨M.next.succ, M.get⟩ : Mem) ⟨M.next.succ.succ, M.get⟩ := ⟨Nat.le_of_lt hnx2, fun _ _ _ h => h⟩
    have Xr := (hX.wide wr1 br1 (q := M.next) (Nat.le_refl _) hnx).wide wr2 br2 (q := M.next.succ) (Nat.le_refl _) hnx2
    have xr : (⟨M.next.succ.succ, M.get⟩ : Mem).get xb = some (.cells [.int 4 a, .int 4 t, .int 4 kk, .int 4 vv] false) := hx
    have nr : (⟨M.next.succ.succ, M.get⟩ : Mem).next = M.next.succ.succ := rfl
    have nkb : M0.next.num ≤ M.next.num := hX.but.next
    have okb : ¬ ownP hv M.next := fun e => by have := hX.hand.lt hw e; omega
    have ovb : ¬ ownP hv M.next.succ := fun e => by have := hX.hand.lt hw e; omega
    have nxk : xb ≠ M.next := fun e => by have := hw _ _ hx; rw [e] at this; omega
    have nxv : xb ≠ M.next.succ := fun e => by have := hw _ _ hx; rw [e] at this; omega
    have nkv : M.next ≠ M.next.succ := fun e => by rw [← e] at hnx; omega
    generalize hMr : (⟨M.next.succ.succ, M.get⟩ : Mem) = Mr at *
    generalize hkb : M.next = kb at *
    generalize hvb : kb.succ = vb at *
    obtain ⟨Gr, osr, hHr, hTr, hkr⟩ := Xr.st
    refine (tpick F h66 h42 hHr hTr (by rw [hkr]; exact Xr.hand.rows) hkk (by simp)).use ?_
    rintro r M1 w1 ⟨⟨kV, G1, os1, rfl, hH1, hT1, hk1, hkey, hk0⟩, b1⟩
    have X1 := Xr.step w1 ⟨G1, os1, hH1, hT1, hk1.trans hkr⟩ b1
    have x1 := b1.get _ _ (fun e => e (.inr (.inl (.inl rfl)))) xr
    simp only [go_sem, VlA, f2, f3, hf, xr, x1]
    refine (tpick F h66 h42 hH1 hT1 (by rw [hk1, hkr]; exact X1.hand.rows) hvv (by simp)).use ?_
    rintro r M2 w2 ⟨⟨vV, G2, os2, rfl, hH2, hT2, hk2, hvkey, hv0⟩, b2⟩
    have X2 := X1.step w2 ⟨G2, os2, hH2, hT2, hk2.trans (hk1.trans hkr)⟩ b2
    have x2 := b2.get _ _ (fun e => e (.inr (.inl (.inl rfl)))) x1
    have n1 := b1.next
    have n2 := b2.next
    have c1 : kb.num < Mr.next.num := by rw [← nr] at hnx2; omega
    have c2 : vb.num < Mr.next.num := by rw [← nr] at hnx2; exact hnx2
    have c3 : kb.num < M1.next.num := by omega
    have c4 : vb.num < M1.next.num := by omega
    have c5 : kb.num < M2.next.num := by omega
    have c6 : vb.num < M2.next.num := by omega
    have nkv1 : (kb = vb) = False := eq_false nkv
    have nkv2 : (vb = kb) = False := eq_false fun e => nkv e.symm
    simp only [go_sem, VlA, f2, f3, hf, x2, c1, c2, c3, c4, c5, c6, nkv1, nkv2]
    have X3 := (((X2.slot (.inl (.inr rfl)) nkb okb c5 (.cells [.int 3 0, .int 3 0] false)).slot (.inr rfl) (by omega) ovb c6 (.cells [.int 3 0, .int 3 0] false)).slot (.inl (.inr rfl)) nkb okb c5 (.cells [.int 3 kV.k, .int 3 kV.n] false)).slot (.inr rfl) (by omega) ovb c6 (.cells [.int 3 vV.k, .int 3 vV.n] false)
    have nxk1 : (xb = kb) = False := eq_false nxk
    have nxv1 : (xb = vb) = False := eq_false nxv
    have x3 : ((((M2.put kb (.cells [.int 3 0, .int 3 0] false)).put vb (.cells [.int 3 0, .int 3 0] false)).put kb (.cells [.int 3 kV.k, .int 3 kV.n] false)).put vb (.cells [.int 3 vV.k, .int 3 vV.n] false)).get xb = some (.cells [.int 4 a, .int 4 t, .int 4 kk, .int 4 vv] false) := by simp [Mem.put, nxk, nxv, x2]
    have y3 : ((((M2.put kb (.cells [.int 3 0, .int 3 0] false)).put vb (.cells [.int 3 0, .int 3 0] false)).put kb (.cells [.int 3 kV.k, .int 3 kV.n] false)).put vb (.cells [.int 3 vV.k, .int 3 vV.n] false)).get kb = some (.cells [.int 3 kV.k, .int 3 kV.n] false) := by simp [Mem.put, nkv]
    have z3 : ((((M2.put kb (.cells [.int 3 0, .int 3 0] false)).put vb (.cells [.int 3 0, .int 3 0] false)).put kb (.cells [.int 3 kV.k, .int 3 kV.n] false)).put vb (.cells [.int 3 vV.k, .int 3 vV.n] false)).get vb = some (.cells [.int 3 vV.k, .int 3 vV.n] false) := by simp [Mem.put]
    simp only [go_sem, nxk1, nxv1, nkv1, nkv2]
    generalize hM3 : (((M2.put kb (.cells [.int 3 0, .int 3 0] false)).put vb (.cells [.int 3 0, .int 3 0] false)).put kb (.cells [.int 3 kV.k, .int 3 kV.n] false)).put vb (.cells [.int 3 vV.k, .int 3 vV.n] false) = M3 at *
    by_cases h82 : a % 8 = 2
    ·have g82 : (((a % 8 : Nat) : Int) == 2) = true := by rw [h82]; rfl
     obtain ⟨G3, os3, hH3, hT3, hk3⟩ := X3.st
     simp only [go_sem, ra, g82, f2, VlA, z3]
     refine (tdrop F hH3 hT3 (by omega)).use ?_
     rintro r M4 w4 ⟨rfl, ⟨G4, os4, hH4, hT4, hk4⟩, b4⟩
     have X4 := X3.step w4 ⟨G4, os4, hH4, hT4, hk4.trans hk3⟩ b4
     have x4 := b4.get _ _ (fun e => e (.inr (.inl (.inl rfl)))) x3
     have y4 := b4.get _ _ (fun e => e (.inr (.inl (.inr rfl)))) y3
     have z4 := b4.get _ _ (fun e => e (.inr (.inr rfl))) z3
     simp only [go_sem]
     refine (null43 h43).use ?_
     rintro r M5 w5 ⟨rfl, b5⟩
     have X5 := X4.quiet w5 b5
     have x5 := b5.get _ _ id x4
     have y5 := b5.get _ _ id y4
     have z5 := b5.get _ _ id z4
     have c7 : vb.num < M5.next.num := w5 _ _ z5
     have X6 := X5.slot (.inr rfl) (by omega) ovb c7 (.cells [.int 3 1, .int 3 0] false)
     have x6 : (M5.put vb (.cells [.int 3 1, .int 3 0] false)).get xb = some (.cells [.int 4 a, .int 4 t, .int 4 kk, .int 4 vv] false) := by simp [Mem.put, nxv, x5]
     have y6 : (M5.put vb (.cells [.int 3 1, .int 3 0] false)).get kb = some (.cells [.int 3 kV.k, .int 3 kV.n] false) := by simp [Mem.put, nkv, y5]
     have z6 : (M5.put vb (.cells [.int 3 1, .int 3 0] false)).get vb = some (.cells [.int 3 1, .int 3 0] false) := by simp [Mem.put]
     obtain ⟨G6, os6, hH6, hT6, hk6⟩ := X6.st
     have X7 : WY M0 (M5.put vb (.cells [.int 3 1, .int 3 0] false)) hp (fun p => (p = xb ∨ p = kb) ∨ p = vb) hv ks [⟨1, 0⟩, kV] k (8 * k + 1) := ⟨X6.wf, ⟨G6, os6, hH6, hT6.add0 (by decide) (ok_null _) (by simp), hk6⟩, X6.hand, X6.but, X6.fresh⟩
     simp only [go_sem, VlA, z5]
     refine CCode.wp_imp ?_ (put12_x F (k := k) (sv := sv) (vV := ⟨1, 0⟩) ⟨by simp [Tr.get_set, f1], by simp [Tr.get_set, f2], by simp [Tr.get_set, f3], by simp [Tr.get_set, f4]⟩ X7 hpos hk (by omega) x6 ht y6 z6 (.inl (.inr rfl)) (.inr rfl) hkey (by simp [Tr.get_set, hf]) (by simp [Tr.get_set]) (by simp [Tr.get_set]))
     rintro e fr' M' ⟨rfl, hF', hX'⟩
     simp only [go_sem]
     exact ⟨hv, ks, hF', hX'.up (Nat.le_refl _) (by omega) (by omega) (by omega) (fun p e => e), by omega⟩
    ·have g82 : (((a % 8 : Nat) : Int) == 2) = false := by rw [beq_eq_false_iff_ne]; omega
     simp only [go_sem, ra, g82]
     refine CCode.wp_imp ?_ (put12_x F (k := k) (sv := sv) ⟨by simp [Tr.get_set, f1], by simp [Tr.get_set, f2], by simp [Tr.get_set, f3], by simp [Tr.get_set, f4]⟩ X3 hpos hk (by omega) x3 ht y3 z3 (.inl (.inr rfl)) (.inr rfl) hkey (by simp [Tr.get_set, hf]) (by simp [Tr.get_set]) (by simp [Tr.get_set]))
     rintro e fr' M' ⟨rfl, hF', hX'⟩
     simp only [go_sem]
     exact ⟨hv, ks, hF', hX'.up (Nat.le_refl _) (by omega) (by omega) (by omega) (fun p e => e), by omega⟩
end Go.Proofs.Ythpnhdopheofcaa
end
section
namespace Go.Proofs.Ythpnhdopheofcaa
open Go.Dx
variable {tbl : Nat → Option CFunc}
theorem hand_cnt' : ∀ (n : Nat) (ks : List Int), ks.length = n → (∀ k ∈ ks, 5 ≤ k ∧ k ≤ 9) → ks.length ≤ 100 → ∀ i : Nat, cR ((i : Int) + 1) (handL ks) = if i < ks.length then 1 else 0 := by
 intro n
 induction n with
 | zero =>
  intro ks hn _ _ i
  rw [List.length_eq_zero_iff.1 hn]; rfl
 | succ n ihn =>
  intro ks hn hk hl i
  rcases List.eq_nil_or_concat ks with rfl | ⟨ks, k, rfl⟩
  ·simp at hn
  rw [List.concat_eq_append] at *
  have ih := ihn ks (by simpa using hn)
  rw [List.length_append, List.length_singleton] at hl
  have hk0 := hk k (by simp)
  rw [hand_snoc, cR_app, cR_cons, cR_nil, ih (fun x hx => hk x (List.mem_append_left _ hx)) (by omega), List.length_append, List.length_singleton]
  have hr : refV ⟨k, (ks.length : Int) + 1⟩ = true := by
   simp only [refV, mayV]
   rw [if_neg (by omega), if_neg (by omega), if_neg (by omega), if_neg (by omega)]
   simp only [Bool.and_eq_true, decide_eq_true_eq]
   omega
  unfold rv
  by_cases e : i = ks.length
  ·subst e
   rw [if_neg (by omega), if_pos ⟨hr, rfl⟩, if_pos (by omega)]; rfl
  ·rw [if_neg (c := refV _ = true ∧ _) (fun h => e (by have := h.2; simp only at this; omega))]
   by_cases c : i < ks.length
   ·rw [if_pos c, if_pos (by omega)]; rfl
   ·rw [if_neg c, if_neg (by omega)]; rfl
theorem hand_cnt (ks : List Int) (h1 : ∀ k ∈ ks, 5 ≤ k ∧ k ≤ 9) (h2 : ks.length ≤ 100) (i : Nat) : cR ((i : Int) + 1) (handL ks) = if i < ks.length then 1 else 0 := hand_cnt' _ ks rfl h1 h2 i
theorem TWo.obs {G : Hp} {os : List Ob} {ex : List Vl} {B C : Nat} (h : TWo G os ex B C) : (List.range os.length).map (obAt G) = os := by
 refine List.ext_getElem (by simp) fun i h1 h2 => ?_
 simp only [List.getElem_map, List.getElem_range, obAt, h.obj h2, Option.getD_some]
theorem TWo.fine {G : Hp} {os : List Ob} {ex : List Vl} {B C : Nat} (h : TWo G os ex B C) : ∀ o ∈ os, ObFine os o := by
 intro o ho
 have hs := h.sh o ho
 obtain ⟨i, hi, rfl⟩ := List.mem_iff_getElem.1 ho
 have hc := h.count hi
 refine ⟨hs.kd, by omega, by rw [hs.mrk]; decide, ?_, fun v hv => ?_, by have := hs.len; have := h.bl; omega⟩
 ·split
  ·rename_i e
   rcases hs.sl with e' | ⟨e', _⟩
   ·exact e'
   ·rw [e] at e'; exact absurd e' (by decide)
  ·exact ⟨hs.tl, hs.tn⟩
 ·have hv' := hs.all v hv
  exact ⟨hv'.1, hv'.2.1, fun hr => by obtain ⟨j, hj, e1, e2⟩ := hv'.at_ hr; exact ⟨j, hj, e1, e2⟩⟩
theorem TcT.ht (F : TcT tbl) : HtT tbl := ⟨F.h25, F.h75, F.h76, F.h77, F.h117, F.h143⟩
theorem audit12_x (F : TcT tbl) (Fg : GrT tbl) (h30 : tbl 30 = some cf30) (h108 : tbl 108 = some cf108) (h55 : tbl 55 = some cf55) (h53 : tbl 53 = some cf53) (h104 : tbl 104 = some ⟨.skip, [], some (.nat natLast)⟩)
  {M0 M : Mem} {hp : Pos} {R : Pos → Prop} {k B C : Nat} {fr : Tr AV} {sv hv : AV} {ks : List Int} (hF : FY fr sv hv hp k) (hX : WY M0 M hp R hv ks [] B C) :
  CCode.wp tbl audit12 fr M fun e fr' M' => e = .normal ∧ FY fr' sv hv hp k ∧ M'.wf ∧ But (fun _ => False) M M' := by
 obtain ⟨f1, f2, f3, f4⟩ := hF
 obtain ⟨G, os, hH, hT, hks⟩ := hX.st
 have hle := hT.le
 have hbl := hT.bl
 have hobs := hT.obs
 have hfine := hT.fine
 have hso : ∀ o ∈ os, o.slots.length ≤ 2 ^ 30 := fun o ho => by have := (hT.sh o ho).len; omega
 have hrl : (allRefs os).length < 2 ^ 40 := by
  have := aR_len os 202 fun o ho => by have := (hT.sh o ho).len; omega
  omega
 have hkk : ∀ x ∈ ks, 5 ≤ x ∧ x ≤ 9 := fun x hx => by
  rw [← hks] at hx
  simp only [ksO, List.mem_map] at hx
  obtain ⟨o, ho, rfl⟩ := hx
  exact (hT.sh o ho).kd
 have hkl : ks.length = os.length := by rw [← hks, ks_len]
 have hexact : ∀ i (hi : i < os.length), os[i].kind ≠ 0 → os[i].count = cntI ((i : Int) + 1) (allRefs os) + cntI ((i : Int) + 1) (refsL (handL ks)) := fun i hi _ => by
  have h1 := hT.cnt i hi
  have h2 := hand_cnt ks hkk (by omega) i
  rw [if_pos (by omega)] at h2
  have h3 : cR ((i : Int) + 1) [] = 0 := rfl
  show _ = _ + cR ((i : Int) + 1) (handL ks)
  omega
 have hh := hX.hand.rows
 simp only [go_sem, audit12, in12, body12, loops12, l2C, r2C, cf12, f2]
 refine (graph_x F.ht h53 h104 hH (N := os.length) (by omega) (fun m hm => ((hT.tk m).1 hm).2) (by by_cases e : os.length = 0; exact .inl (by omega); exact .inr ((hT.tk _).2 (by omega))) hT.low).use ?_
 rintro r M1 w1 ⟨⟨gv, rfl, hg⟩, b1⟩
 rw [hobs] at hg
 have hgc := slIs_cell hg.choose_spec.1
 have b2 := But.fill w1 (.cells [.nilslice] false) (.cells [gv] false)
 have w2 := w1.fill (.cells [.nilslice] false) (.cells [gv] false)
 have x2 : ((M1.new (.cells [.nilslice] false)).put M1.next (.cells [gv] false)).get M1.next = some (.cells [gv] false) := by simp [Mem.put]
 simp only [go_sem, hgc]
 generalize hM2 : (M1.new (.cells [.nilslice] false)).put M1.next (.cells [gv] false) = M2 at *
 have hg2 := hg.old b2
 have hl3 : os.length < 2 ^ 20 := by omega
 refine (check_x F.ht Fg hg2 hl3 hfine).use ?_
 rintro r M3 w3 ⟨rfl, b3⟩
 have x3 := b3.get _ _ id x2
 have b13 := (b1.trans b2).trans b3
 simp only [go_sem, x3, f3]
 refine (exact_x F.ht Fg h30 h108 h55 (hg2.old b3) (hh.old b13.old) hl3 hfine hrl hso (by rw [hand_len]; omega) hexact).use ?_
 rintro r M4 w4 ⟨rfl, b4⟩
 simp only [go_sem]
 exact ⟨⟨by simp [Tr.get_set, f1], by simp [Tr.get_set, f2], by simp [Tr.get_set, f3], by simp [Tr.get_set, f4]⟩, w4, b13.trans b4⟩
abbrev M4 := Nat × Nat × Nat × Nat
def Mov4 (l : List M4) : List (List AV) := l.map fun x => [.int 4 x.1, .int 4 x.2.1, .int 4 x.2.2.1, .int 4 x.2.2.2]
theorem mov4_len (l : List M4) : (Mov4 l).length = l.length := by simp [Mov4]
set_option maxHeartbeats 4000000 in
theorem tableCounts (F : TcT tbl) (Fg : GrT tbl) (h12 : tbl 12 = some cf12) (h39 : tbl 39 = some ⟨.skip, [], some (.val (.bool true))⟩) (h66 : tbl 66 = some cf66) (h42 : tbl 42 = some cf42) (h43 : tbl 43 = some cf43) (h30 : tbl 30 = some cf30) (h108 : tbl 108 = some cf108) (h55 : tbl 55 = some cf55) (h53 : tbl 53 = some cf53) (h104 : tbl 104 = some ⟨.skip, [], some (.nat natLast)⟩)
  {M : Mem} {sv : AV} {l : List M4} (hl : SlIs M sv 4 (Mov4 l)) (hr : ∀ x ∈ l, x.1 < 256 ∧ x.2.1 < 256 ∧ x.2.2.1 < 256 ∧ x.2.2.2 < 256) :
  CallW tbl 12 (.cons sv .nil) M fun r _ => r = .ret (.bool true) := by
 refine CallW.wf fun hw => ?_
 refine CallW.intro h12 rfl (fr := .nod (.val .leaf sv .leaf) .leaf) rfl ?_
 rw [body12_eq]
 simp only [go_sem, cf12, l2C, r2C]
 refine CallW.konst h39 rfl ?_
 simp only [go_sem]
 refine (heapnew_spec F.h40 F.h84 (P := fun p => PY M .nilslice (fun _ => False) p) (fun p hp => by
  rcases hp with (hp | ⟨n, s, hp⟩) | hp
  ·exact hp
  ·cases hp
  ·exact hp.elim)).use ?_
 rintro r M1 w1 ⟨hp, rfl, hH1, b1, hlt⟩
 have X0 : WY M M1 hp (fun _ => False) .nilslice [] [] 0 0 :=
  ⟨w1, ⟨G0, [], hH1, ⟨fun m => by simp [G0], fun m => by simp [G0]; omega, rfl, rfl, by simp [G0], fun i hi => (by simp at hi), fun o ho => (by cases ho), fun v hv => (by cases hv), by simp, by simp, by omega, by omega⟩, rfl⟩, OwnSl.nil _ _, b1.any _, fun p ⟨n, s, e⟩ => (by cases e)⟩
 simp only [go_sem]
 rw [loops12_eq]
 have hlen := hl.len
 rw [mov4_len] at hlen
 obtain ⟨N, hN⟩ : ∃ N, N = min l.length 60 := ⟨_, rfl⟩
 simp only [go_sem, l2C, r2C, cf12, body12, loops12, in12]
 refine loop_wp (I := fun n fr M' => ∃ (k : Nat) (hv : AV) (ks : List Int), n + k = N ∧ FY fr sv hv hp k ∧ WY M M' hp (fun _ => False) hv ks [] k (8 * k) ∧ ks.length ≤ k) (n := N) ?_ ?_
 ·exact ⟨0, .nilslice, [], rfl, ⟨rfl, rfl, rfl, rfl⟩, X0, Nat.le_refl _⟩
 ·rintro n fr M' ⟨k, hv, ks, h0, hF, hX, hkl⟩
  have ⟨f1, f2, f3, f4⟩ := hF
  have w' := hX.wf
  have hl' : SlIs M' sv 4 (Mov4 l) := hl.old (But.fresh hw (hX.but.mono fun p e => .inr e)).old
  cases n with
  | zero =>
   by_cases hle : l.length ≤ 60
   ·have g1 : decide ((k : Int) < (l.length : Int)) = false := by simp only [decide_eq_false_iff_not]; omega
    simp only [go_sem, l2C, r2C, cf12, body12, loops12, in12, f1, f4, hlen, g1]
   ·have g1 : decide ((k : Int) < (l.length : Int)) = true := by simp only [decide_eq_true_eq]; omega
    have g2 : decide ((k : Int) < 60) = false := by simp only [decide_eq_false_iff_not]; omega
    simp only [go_sem, l2C, r2C, cf12, body12, loops12, in12, f1, f4, hlen, g1, g2]
  | succ n =>
   have g1 : decide ((k : Int) < (l.length : Int)) = true := by simp only [decide_eq_true_eq]; omega
   have g2 : decide ((k : Int) < 60) = true := by simp only [decide_eq_true_eq]; omega
   have hi : k < l.length := by omega
   obtain ⟨p, po, a1, a2⟩ := hl'.at_ (i := k) (by rw [mov4_len]; exact hi)
   rw [mov4_len] at a1
   have a2' : (Mov4 l)[k]? = some [.int 4 l[k].1, .int 4 l[k].2.1, .int 4 l[k].2.2.1, .int 4 l[k].2.2.2] := by simp [Mov4, List.getElem?_eq_getElem hi]
   rw [a2'] at a2
   obtain ⟨ha, hb, hc, hd⟩ := hr _ (List.getElem_mem hi)
   generalize l[k] = mv at *
   obtain ⟨a, b, c, d⟩ := mv
   simp only at a2 ha hb hc hd
   have b7 := But.fill w' (.cells [.int 4 0, .int 4 0, .int 4 0, .int 4 0] false) (.cells [.int 4 a, .int 4 b, .int 4 c, .int 4 d] false)
   have w7 := w'.fill (.cells [.int 4 0, .int 4 0, .int 4 0, .int 4 0] false) (.cells [.int 4 a, .int 4 b, .int 4 c, .int 4 d] false)
   have x7 : ((M'.new (.cells [.int 4 0, .int 4 0, .int 4 0, .int 4 0] false)).put M'.next (.cells [.int 4 a, .int 4 b, .int 4 c, .int 4 d] false)).get M'.next = some (.cells [.int 4 a, .int 4 b, .int 4 c, .int 4 d] false) := by simp [Mem.put]
   have X7 := (hX.wide w7 b7 (q := M'.next) (Nat.le_refl _) (by show M'.next.num < M'.next.succ.num; rw [Pos.num_succ]; omega)).less (R' := fun p => p = M'.next) fun p e => .inr e
   simp only [go_sem, l2C, r2C, cf12, body12, loops12, in12, f1, f4, hlen, g1, g2, a1, a2, hi]
   refine CCode.wp_imp ?_ (act12_x F h66 h42 h43 (k := k) (sv := sv) (hv := hv) ⟨by simp [Tr.get_set, f1], by simp [Tr.get_set, f2], by simp [Tr.get_set, f3], by simp [Tr.get_set, f4]⟩ X7 hkl (by omega) x7 ha hb hc hd (by simp [Tr.get_set]))
   rintro e fr8 M8 ⟨rfl, hv8, ks8, hF8, X8, hk8⟩
   simp only [go_sem]
   refine CCode.wp_imp ?_ (audit12_x F Fg h30 h108 h55 h53 h104 hF8 X8)
   rintro e fr9 M9 ⟨rfl, hF9, w9, b9⟩
   have ⟨f1, f2, f3, f4⟩ := hF9
   have e1 : IntKind.i64.wrap ((k : Int) + 1) = ((k + 1 : Nat) : Int) := by rw [wrap64 (by omega) (by omega)]; omega
   simp only [go_sem, f4, e1]
   exact ⟨n, by omega, k + 1, hv8, ks8, by omega, ⟨by simp [Tr.get_set, f1], by simp [Tr.get_set, f2], by simp [Tr.get_set, f3], by simp [Tr.get_set]⟩, X8.quiet w9 b9, hk8⟩
end Go.Proofs.Ythpnhdopheofcaa
end
section
namespace Go.Proofs.Ythpnhdopheofcaa
open Go.Dx
variable {tbl : Nat → Option CFunc}
theorem u8n_of {n : Int} (hn : (Lit.int .u8 n).wf = true) : ∃ m : Nat, n = (m : Int) ∧ m < 256 := by
 simp only [Lit.wf, IntKind.min, IntKind.max, IntKind.signed, IntKind.bits, Bool.and_eq_true, decide_eq_true_eq] at hn
 simp at hn
 exact ⟨n.toNat, by omega, by omega⟩
theorem movs4_of : ∀ {xs : List (List AV)}, (∀ x ∈ xs, okRow [.i .u8, .i .u8, .i .u8, .i .u8] x) → ∃ l : List M4, xs = Mov4 l ∧ ∀ x ∈ l, x.1 < 256 ∧ x.2.1 < 256 ∧ x.2.2.1 < 256 ∧ x.2.2.2 < 256
 | [], _ => ⟨[], rfl, fun x hx => by cases hx⟩
 | x :: r, h => by
  obtain ⟨l, rfl, hl⟩ := movs4_of (xs := r) fun y hy => h y (List.mem_cons_of_mem _ hy)
  have hx := h x List.mem_cons_self
  rcases x with _ | ⟨a, _ | ⟨b, _ | ⟨c, _ | ⟨d, _ | ⟨e, t⟩⟩⟩⟩⟩
  ·exact hx.elim
  ·exact hx.2.elim
  ·exact hx.2.2.elim
  ·exact hx.2.2.2.elim
  ·obtain ⟨⟨k, rfl, hk⟩, ⟨n, rfl, hn⟩, ⟨m, rfl, hm⟩, ⟨j, rfl, hj⟩, _⟩ := hx
   obtain ⟨k, rfl, hk'⟩ := u8n_of hk
   obtain ⟨n, rfl, hn'⟩ := u8n_of hn
   obtain ⟨m, rfl, hm'⟩ := u8n_of hm
   obtain ⟨j, rfl, hj'⟩ := u8n_of hj
   exact ⟨(k, n, m, j) :: l, rfl, fun x hx => by
    rcases List.mem_cons.1 hx with rfl | hx
    ·exact ⟨hk', hn', hm', hj'⟩
    ·exact hl x hx⟩
  ·exact hx.2.2.2.2.elim
theorem tcounts_arg (F : TcT tbl) (Fg : GrT tbl) (h12 : tbl 12 = some cf12) {cw cl : CFunc} (h39 : tbl 39 = some cw) (hcw : cw = ⟨.skip, [], some (.val (.bool true))⟩) (h66 : tbl 66 = some cf66) (h42 : tbl 42 = some cf42) (h43 : tbl 43 = some cf43) (h30 : tbl 30 = some cf30) (h108 : tbl 108 = some cf108) (h55 : tbl 55 = some cf55) (h53 : tbl 53 = some cf53) (h104 : tbl 104 = some cl) (hcl : cl = ⟨.skip, [], some (.nat natLast)⟩)
  {W : World} {v : Value} {sv : AV} {len : Nat} {xs : List (List AV)} (h : ArgSl [.i .u8, .i .u8, .i .u8, .i .u8] W v sv len xs) :
  CallW tbl 12 (.cons sv .nil) (argM (argO sv xs)) fun r _ => r = .ret (.bool true) := by
 subst hcw hcl
 obtain ⟨l, rfl, hl⟩ := movs4_of h.okRows
 have hr := h.rows
 exact tableCounts (l := l.take len) F Fg h12 h39 h66 h42 h43 h30 h108 h55 h53 h104 (by simpa [Mov4, List.map_take] using hr) fun x hx => hl x (List.mem_of_mem_take hx)
end Go.Proofs.Ythpnhdopheofcaa
end
