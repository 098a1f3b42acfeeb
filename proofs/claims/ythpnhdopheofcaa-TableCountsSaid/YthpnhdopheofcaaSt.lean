import Derived.Test.YthpnhdopheofcaaDxWk
import Derived.Test.YthpnhdopheofcaaFns
import Derived.Test.YthpnhdopheofcaaDxLy
import Derived.Test.YthpnhdopheofcaaDxNat
import Derived.Test.YthpnhdopheofcaaDxSo
set_option linter.unusedSimpArgs false
set_option linter.unusedVariables false
section
namespace Go.Proofs.Ythpnhdopheofcaa
open Go.Dx
variable {tbl : Nat → Option CFunc}
theorem wrap64 {n : Int} (h1 : -(2 ^ 63) ≤ n) (h2 : n < 2 ^ 63) : IntKind.i64.wrap n = n := by
 unfold IntKind.wrap
 simp [IntKind.signed, IntKind.bits]
 omega
theorem wrap_succ {n : Nat} (h : n < 2 ^ 62) : IntKind.i64.wrap ((n : Int) + 1) = ((n + 1 : Nat) : Int) := by
 rw [wrap64 (by omega) (by omega)]; rfl
structure Vl where
 k : Int
 n : Int
 deriving DecidableEq
def VlR (v : Vl) : List AV := [.int 3 v.k, .int 3 v.n]
def VlA (v : Vl) : AV := .agg (.cons (.int 3 v.k) (.cons (.int 3 v.n) .nil))
def VlL (l : List Vl) : List (List AV) := l.map VlR
def mayV (v : Vl) : Bool :=
 if v.k = 0 ∨ v.k = 1 then decide (0 ≤ v.n) && decide (v.n ≤ 0)
 else if v.k = 2 then decide (0 ≤ v.n) && decide (v.n ≤ 1)
 else if v.k = 3 then true
 else if v.k = 4 then decide (0 ≤ v.n) && decide (v.n ≤ 12)
 else decide (5 ≤ v.k) && (decide (v.k ≤ 9) && (decide (1 ≤ v.n) && decide (v.n ≤ 2147483647)))
def refV (v : Vl) : Bool := decide (5 ≤ v.k) && mayV v
def keyV (v : Vl) : Bool := decide (1 < v.k) && mayV v
theorem within_spec (h : tbl 143 = some cf143) {M : Mem} {k n lo hi : Int} {q : Pos} {b : Bool} (hq : M.get q = some (.cells [.int 3 k, .int 3 n] b)) :
  CallW tbl 143 (.cons (.int 3 lo) (.cons (.int 3 hi) (.cons (.ptr q 0) .nil))) M fun r M' => r = .ret (.bool (decide (lo ≤ n) && decide (n ≤ hi))) ∧ M' = M := by
 refine CallW.intro h rfl (fr := .nod (.val (.val .leaf (.ptr q 0) .leaf) (.int 3 lo) .leaf) (.val .leaf (.int 3 hi) .leaf)) rfl ?_
 cases g : decide (lo ≤ n) with
 | true =>
  simp only [go_sem, cf143, hq, g]
  try simp
 | false =>
  simp only [go_sem, cf143, hq, g]
  try simp
theorem may_spec (h : tbl 117 = some cf117) (h1 : tbl 143 = some cf143) {M : Mem} {v : Vl} :
  CallW tbl 117 (.cons (VlA v) .nil) M fun r M' => r = .ret (.bool (mayV v)) ∧ But (fun _ => False) M M' := by
 refine CallW.wf fun hw => ?_
 obtain ⟨k, n⟩ := v
 refine CallW.intro h rfl (fr := .nod (.val .leaf (VlA ⟨k, n⟩) .leaf) .leaf) rfl ?_
 have hb := But.new (S := fun _ => False) hw (.cells [.int 3 k, .int 3 n] false)
 have w : ∀ lo hi, CallW tbl 143 (.cons (.int 3 lo) (.cons (.int 3 hi) (.cons (.ptr M.next 0) .nil))) (M.new (.cells [.int 3 k, .int 3 n] false)) fun r M' => r = .ret (.bool (decide (lo ≤ n) && decide (n ≤ hi))) ∧ M' = M.new (.cells [.int 3 k, .int 3 n] false) := fun lo hi => within_spec h1 (k := k) (b := false) (by simp [Mem.new])
 by_cases k0 : k = 0
 ·subst k0
  simp only [go_sem, cf117, VlA]
  refine (w 0 0).use ?_
  rintro r M' hw' ⟨rfl, rfl⟩
  simp only [go_sem]
  exact ⟨by simp [mayV], hb⟩
 have g0 : (k == 0) = false := by simp [k0]
 by_cases k1 : k = 1
 ·subst k1
  simp only [go_sem, cf117, VlA]
  refine (w 0 0).use ?_
  rintro r M' hw' ⟨rfl, rfl⟩
  simp only [go_sem]
  exact ⟨by simp [mayV], hb⟩
 have g1 : (k == 1) = false := by simp [k1]
 by_cases k2 : k = 2
 ·subst k2
  simp only [go_sem, cf117, VlA]
  refine (w 0 1).use ?_
  rintro r M' hw' ⟨rfl, rfl⟩
  simp only [go_sem]
  exact ⟨by simp [mayV], hb⟩
 have g2 : (k == 2) = false := by simp [k2]
 by_cases k3 : k = 3
 ·subst k3
  simp only [go_sem, cf117, VlA]
  exact ⟨by simp [mayV], hb⟩
 have g3 : (k == 3) = false := by simp [k3]
 by_cases k4 : k = 4
 ·subst k4
  simp only [go_sem, cf117, VlA]
  refine (w 0 12).use ?_
  rintro r M' hw' ⟨rfl, rfl⟩
  simp only [go_sem]
  exact ⟨by simp [mayV], hb⟩
 have g4 : (k == 4) = false := by simp [k4]
 cases g5 : decide (5 ≤ k) with
 | false =>
  simp only [go_sem, cf117, VlA, g0, g1, g2, g3, g4, g5]
  exact ⟨by simp [mayV, k0, k1, k2, k3, k4, g5], hb⟩
 | true =>
  cases g6 : decide (k ≤ 9) with
  | false =>
   simp only [go_sem, cf117, VlA, g0, g1, g2, g3, g4, g5, g6]
   exact ⟨by simp [mayV, k0, k1, k2, k3, k4, g5, g6], hb⟩
  | true =>
   simp only [go_sem, cf117, VlA, g0, g1, g2, g3, g4, g5, g6]
   refine (w 1 2147483647).use ?_
   rintro r M' hw' ⟨rfl, rfl⟩
   simp only [go_sem]
   exact ⟨by simp [mayV, k0, k1, k2, k3, k4, g5, g6], hb⟩
theorem ref_spec (h : tbl 77 = some cf77) (h0 : tbl 117 = some cf117) (h1 : tbl 143 = some cf143) {M : Mem} {v : Vl} :
  CallW tbl 77 (.cons (VlA v) .nil) M fun r M' => r = .ret (.bool (refV v)) ∧ But (fun _ => False) M M' := by
 refine CallW.wf fun hw => ?_
 obtain ⟨k, n⟩ := v
 refine CallW.intro h rfl (fr := .nod (.val .leaf (VlA ⟨k, n⟩) .leaf) .leaf) rfl ?_
 have hb := But.new (S := fun _ => False) hw (.cells [.int 3 k, .int 3 n] false)
 cases g5 : decide (5 ≤ k) with
 | false =>
  simp only [go_sem, cf77, VlA, g5]
  exact ⟨by simp [refV, g5], hb⟩
 | true =>
  simp only [go_sem, cf77, VlA, g5]
  refine (may_spec h0 h1 (v := ⟨k, n⟩)).use ?_
  rintro r M' hw' ⟨rfl, b⟩
  simp only [go_sem]
  exact ⟨by simp [refV, g5], hb.trans b⟩
end Go.Proofs.Ythpnhdopheofcaa
end
section
namespace Go.Proofs.Ythpnhdopheofcaa
open Go.Dx
variable {tbl : Nat → Option CFunc}
structure Ob where
 kind : Int
 count : Int
 slots : List Vl
 tl : Nat
 tn : Nat
 mark : Int
structure Hp where
 objs : Int → Option Ob
 taken : Int → Bool
 free : List Int
 next : Int
 queue : List Int
 buffer : List Int
 fins : List (Int × Int)
 marks : Int
def IntL (l : List Int) : List (List AV) := l.map fun n => [.int 3 n]
def PairL (l : List (Int × Int)) : List (List AV) := l.map fun x => [.int 3 x.1, .int 3 x.2]
def ObR (o : Ob) (sv : AV) : List AV := [.int 3 o.kind, .int 3 o.count, sv, .str o.tl o.tn, .int 3 o.mark]
def intKey (a : AV) : Prop := ∃ n, a = .int 3 n
structure Lay where
 hp : Pos
 pp : Pos
 tp : Pos
 mp : Pos
 ob : Int → Pos
 sv : Int → AV
 qv : AV
 bv : AV
 fv : AV
 rv : AV
def objF (G : Hp) (Y : Lay) : AV → Option AV
 | .int _ n => (G.objs n).map fun _ => .ptr (Y.ob n) 0
 | _ => none
def takenF (G : Hp) : AV → Option AV
 | .int _ n => if G.taken n then some (.agg .nil) else none
 | _ => none
def hpC (Y : Lay) (G : Hp) : List AV := [.ptr Y.pp 0, .map Y.mp, Y.qv, Y.bv, Y.fv, .int 3 G.marks, .func (.func 85) .nil .nil, .bool false]
def ppC (Y : Lay) (G : Hp) : List AV := [.map Y.tp, Y.rv, .int 3 G.next]
theorem put_born' {k : EK} {x v : AV} {c : Nat} : ∀ {m m' : ME} {fr : Bool} {lo : Nat}, lo ≤ c → bornOk c m lo = true → ME.put k x v c m = some (m', fr) → bornOk (if fr = true then c + 1 else c) m' lo = true := by
 intro m
 induction m with
 | nil =>
  intro m' fr lo hl _ h
  simp only [ME.put, Option.some.injEq, Prod.mk.injEq] at h
  obtain ⟨rfl, rfl⟩ := h
  simp [bornOk, hl]
 | cons y u b r ih =>
  intro m' fr lo hl hb h
  simp only [bornOk, Bool.and_eq_true, Nat.ble_eq, Nat.blt_eq] at hb
  obtain ⟨⟨h1, h2⟩, h3⟩ := hb
  simp only [ME.put] at h
  split at h
  ·simp only [Option.some.injEq, Prod.mk.injEq] at h
   obtain ⟨rfl, rfl⟩ := h
   simp [bornOk, h1, h2, h3]
  ·simp only [Option.map_eq_some_iff, Prod.mk.injEq, Prod.exists] at h
   obtain ⟨m1, fr1, h4, rfl, rfl⟩ := h
   have h5 := ih (by omega) h3 h4
   have h6 : b < (if fr1 = true then c + 1 else c) := by split <;> omega
   simp [bornOk, h1, h5, h6]
  ·cases h
theorem put_born {k : EK} {x v : AV} {c : Nat} {m m' : ME} {fr : Bool} (h : bornOk c m 0 = true) (p : ME.put k x v c m = some (m', fr)) : bornOk (if fr = true then c + 1 else c) m' 0 = true := put_born' (Nat.zero_le _) h p
def TakIs (c : Nat) (es : ME) (f : AV → Option AV) : Prop := MapIs (.leaf .int) intKey es f ∧ bornOk c es 0 = true
structure HeapB (M : Mem) (own : Own) (Y : Lay) (G : Hp) : Prop where
 inn : own.in M
 hpo : own Y.hp = some (0, 0)
 hpc : M.get Y.hp = some (.cells (hpC Y G) false)
 ppo : own Y.pp = some (1, 0)
 ppc : M.get Y.pp = some (.cells (ppC Y G) false)
 tpo : own Y.tp = some (2, 0)
 tpc : ∃ es c, M.get Y.tp = some (.map es c) ∧ TakIs c es (takenF G)
 mpo : own Y.mp = some (3, 0)
 mpc : ∃ es c, M.get Y.mp = some (.map es c) ∧ MapIs (.leaf .int) intKey es (objF G Y)
 obj : ∀ n o, G.objs n = some o → own (Y.ob n) = some (4, n) ∧ M.get (Y.ob n) = some (.cells (ObR o (Y.sv n)) false) ∧ SlO M own (5, n) (Y.sv n) 2 (VlL o.slots)
 que : SlO M own (6, 0) Y.qv 1 (IntL G.queue)
 buf : SlO M own (7, 0) Y.bv 1 (IntL G.buffer)
 fin : SlO M own (8, 0) Y.fv 2 (PairL G.fins)
 fre : SlO M own (9, 0) Y.rv 1 (IntL G.free)
theorem Own.in.mono {own : Own} {M M' : Mem} (h : own.in M) (hn : M.next.num ≤ M'.next.num) : own.in M' := fun p hp => Nat.lt_of_lt_of_le (h p hp) hn
theorem HeapB.keep {M M' : Mem} {own : Own} {Y : Lay} {G : Hp} (h : HeapB M own Y G) (hb : But (fun p => own p = none) M M') : HeapB M' own Y G := by
 have k : ∀ p b t, own p = some t → M.get p = some b → M'.get p = some b := fun p b t ho hp => hb.get p b (by rw [ho]; simp) hp
 have ks : ∀ {t v size L}, SlO M own t v size L → SlO M' own t v size L := fun hs => hs.keep (fun p b ho hp => k p b _ ho hp) fun _ h => h
 obtain ⟨es, c, h1, h2⟩ := h.tpc
 obtain ⟨es', c', h3, h4⟩ := h.mpc
 exact ⟨Own.in.mono h.inn hb.next, h.hpo, k _ _ _ h.hpo h.hpc, h.ppo, k _ _ _ h.ppo h.ppc, h.tpo, ⟨es, c, k _ _ _ h.tpo h1, h2⟩, h.mpo, ⟨es', c', k _ _ _ h.mpo h3, h4⟩,
  fun n o ho => ⟨(h.obj n o ho).1, k _ _ _ (h.obj n o ho).1 (h.obj n o ho).2.1, ks (h.obj n o ho).2.2⟩, ks h.que, ks h.buf, ks h.fin, ks h.fre⟩
theorem HeapB.up {M M' : Mem} {own own' : Own} {Y : Lay} {G : Hp} (h : HeapB M own Y G) (t u : Tag) (ho : OwnUp t M M' own own') (hn : M.next.num ≤ M'.next.num)
  (k : ∀ p b s, own p = some s → s ≠ t → s ≠ u → M.get p = some b → M'.get p = some b) :
  own'.in M' ∧ (∀ {s v size L}, s ≠ t → s ≠ u → SlO M own s v size L → SlO M' own' s v size L) :=
 ⟨ho.in_ h.inn hn, fun hs hu hso => hso.keep (fun p b ho' hp => k p b _ ho' hs hu hp) fun _ h => ho.old h⟩
theorem tag_ne {a b : Nat} {x y : Int} (h : a ≠ b) : (a, x) ≠ (b, y) := fun e => h (congrArg Prod.fst e)
end Go.Proofs.Ythpnhdopheofcaa
end
section
namespace Go.Proofs.Ythpnhdopheofcaa
open Go.Dx
theorem HeapB.setBuf {M M1 : Mem} {own own1 : Own} {Y : Lay} {G : Hp} (h : HeapB M own Y G) (ho : OwnUp (7, 0) M M1 own own1) (hb : But (fun p => own p = some (7, 0)) M M1) {v : AV} {l : List Int} (hs : SlO M1 own1 (7, 0) v 1 (IntL l)) :
  HeapB (M1.put Y.hp (.cells [.ptr Y.pp 0, .map Y.mp, Y.qv, v, Y.fv, .int 3 G.marks, .func (.func 85) .nil .nil, .bool false] false)) own1 { Y with bv := v } { G with buffer := l } := by
 have ne : ∀ p s, own p = some s → s ≠ (0, 0) → p ≠ Y.hp := fun p s h1 h2 e => by rw [e, h.hpo] at h1; cases h1; exact h2 rfl
 have k : ∀ p b s, own p = some s → s ≠ (7, 0) → s ≠ (0, 0) → M.get p = some b → (M1.put Y.hp (.cells [.ptr Y.pp 0, .map Y.mp, Y.qv, v, Y.fv, .int 3 G.marks, .func (.func 85) .nil .nil, .bool false] false)).get p = some b := fun p b s h1 h2 h3 h4 => by
  show (if p = Y.hp then _ else M1.get p) = _
  rw [if_neg (ne p s h1 h3)]
  exact hb.get p b (fun e => by rw [h1] at e; exact h2 (Option.some.inj e)) h4
 obtain ⟨u1, u2⟩ := h.up (7, 0) (0, 0) ho (M' := (M1.put Y.hp (.cells [.ptr Y.pp 0, .map Y.mp, Y.qv, v, Y.fv, .int 3 G.marks, .func (.func 85) .nil .nil, .bool false] false))) hb.next k
 have ks : ∀ {v size L}, SlO M1 own1 (7, 0) v size L → SlO (M1.put Y.hp (.cells [.ptr Y.pp 0, .map Y.mp, Y.qv, v, Y.fv, .int 3 G.marks, .func (.func 85) .nil .nil, .bool false] false)) own1 (7, 0) v size L := fun hs => hs.keep (fun p b h5 h6 => by show (if p = Y.hp then _ else M1.get p) = _; rw [if_neg fun e => by rw [e, ho.old h.hpo] at h5; cases h5]; exact h6) (fun _ h => h)
 have at_ : (M1.put Y.hp (.cells [.ptr Y.pp 0, .map Y.mp, Y.qv, v, Y.fv, .int 3 G.marks, .func (.func 85) .nil .nil, .bool false] false)).get Y.hp = some (.cells [.ptr Y.pp 0, .map Y.mp, Y.qv, v, Y.fv, .int 3 G.marks, .func (.func 85) .nil .nil, .bool false] false) := by simp [Mem.put]
 obtain ⟨es, c, h1, h2⟩ := h.tpc
 obtain ⟨es', c', h3, h4⟩ := h.mpc
 exact ⟨u1, ho.old h.hpo, at_, ho.old h.ppo, k _ _ _ h.ppo (tag_ne (by decide)) (tag_ne (by decide)) h.ppc, ho.old h.tpo, ⟨es, c, k _ _ _ h.tpo (tag_ne (by decide)) (tag_ne (by decide)) h1, h2⟩,
  ho.old h.mpo, ⟨es', c', k _ _ _ h.mpo (tag_ne (by decide)) (tag_ne (by decide)) h3, h4⟩,
  fun n o hno => ⟨ho.old (h.obj n o hno).1, k _ _ _ (h.obj n o hno).1 (tag_ne (by decide)) (tag_ne (by decide)) (h.obj n o hno).2.1, u2 (tag_ne (by decide)) (tag_ne (by decide)) (h.obj n o hno).2.2⟩,
  u2 (tag_ne (by decide)) (tag_ne (by decide)) h.que, ks hs, u2 (tag_ne (by decide)) (tag_ne (by decide)) h.fin, u2 (tag_ne (by decide)) (tag_ne (by decide)) h.fre⟩
theorem HeapB.setFree {M M1 : Mem} {own own1 : Own} {Y : Lay} {G : Hp} (h : HeapB M own Y G) (ho : OwnUp (9, 0) M M1 own own1) (hb : But (fun p => own p = some (9, 0)) M M1) {v : AV} {l : List Int} (hs : SlO M1 own1 (9, 0) v 1 (IntL l)) (m : Int) :
  HeapB (M1.put Y.pp (.cells [.map Y.tp, v, .int 3 m] false)) own1 { Y with rv := v } { G with free := l, next := m } := by
 have ne : ∀ p s, own p = some s → s ≠ (1, 0) → p ≠ Y.pp := fun p s h1 h2 e => by rw [e, h.ppo] at h1; cases h1; exact h2 rfl
 have k : ∀ p b s, own p = some s → s ≠ (9, 0) → s ≠ (1, 0) → M.get p = some b → (M1.put Y.pp (.cells [.map Y.tp, v, .int 3 m] false)).get p = some b := fun p b s h1 h2 h3 h4 => by
  show (if p = Y.pp then _ else M1.get p) = _
  rw [if_neg (ne p s h1 h3)]
  exact hb.get p b (fun e => by rw [h1] at e; exact h2 (Option.some.inj e)) h4
 obtain ⟨u1, u2⟩ := h.up (9, 0) (1, 0) ho (M' := (M1.put Y.pp (.cells [.map Y.tp, v, .int 3 m] false))) hb.next k
 have ks : ∀ {v size L}, SlO M1 own1 (9, 0) v size L → SlO (M1.put Y.pp (.cells [.map Y.tp, v, .int 3 m] false)) own1 (9, 0) v size L := fun hs => hs.keep (fun p b h5 h6 => by show (if p = Y.pp then _ else M1.get p) = _; rw [if_neg fun e => by rw [e, ho.old h.ppo] at h5; cases h5]; exact h6) (fun _ h => h)
 have at_ : (M1.put Y.pp (.cells [.map Y.tp, v, .int 3 m] false)).get Y.pp = some (.cells [.map Y.tp, v, .int 3 m] false) := by simp [Mem.put]
 obtain ⟨es, c, h1, h2⟩ := h.tpc
 obtain ⟨es', c', h3, h4⟩ := h.mpc
 exact ⟨u1, ho.old h.hpo, k _ _ _ h.hpo (tag_ne (by decide)) (tag_ne (by decide)) h.hpc, ho.old h.ppo, at_, ho.old h.tpo, ⟨es, c, k _ _ _ h.tpo (tag_ne (by decide)) (tag_ne (by decide)) h1, h2⟩,
  ho.old h.mpo, ⟨es', c', k _ _ _ h.mpo (tag_ne (by decide)) (tag_ne (by decide)) h3, h4⟩,
  fun n o hno => ⟨ho.old (h.obj n o hno).1, k _ _ _ (h.obj n o hno).1 (tag_ne (by decide)) (tag_ne (by decide)) (h.obj n o hno).2.1, u2 (tag_ne (by decide)) (tag_ne (by decide)) (h.obj n o hno).2.2⟩,
  u2 (tag_ne (by decide)) (tag_ne (by decide)) h.que, u2 (tag_ne (by decide)) (tag_ne (by decide)) h.buf, u2 (tag_ne (by decide)) (tag_ne (by decide)) h.fin, ks hs⟩
theorem HeapB.setTaken {M M1 : Mem} {own own1 : Own} {Y : Lay} {G : Hp} (h : HeapB M own Y G) (ho : OwnUp (99, 0) M M1 own own1) (hb : But (fun p => own p = some (99, 0)) M M1) {es' : ME} {c' : Nat} {f : Int → Bool} (hm : TakIs c' es' (takenF { G with taken := f })) :
  HeapB (M1.put Y.tp (.map es' c')) own1 Y { G with taken := f } := by
 have ne : ∀ p s, own p = some s → s ≠ (2, 0) → p ≠ Y.tp := fun p s h1 h2 e => by rw [e, h.tpo] at h1; cases h1; exact h2 rfl
 have k : ∀ p b s, own p = some s → s ≠ (99, 0) → s ≠ (2, 0) → M.get p = some b → (M1.put Y.tp (.map es' c')).get p = some b := fun p b s h1 h2 h3 h4 => by
  show (if p = Y.tp then _ else M1.get p) = _
  rw [if_neg (ne p s h1 h3)]
  exact hb.get p b (fun e => by rw [h1] at e; exact h2 (Option.some.inj e)) h4
 obtain ⟨u1, u2⟩ := h.up (99, 0) (2, 0) ho (M' := (M1.put Y.tp (.map es' c'))) hb.next k
 have ks : ∀ {v size L}, SlO M1 own1 (99, 0) v size L → SlO (M1.put Y.tp (.map es' c')) own1 (99, 0) v size L := fun hs => hs.keep (fun p b h5 h6 => by show (if p = Y.tp then _ else M1.get p) = _; rw [if_neg fun e => by rw [e, ho.old h.tpo] at h5; cases h5]; exact h6) (fun _ h => h)
 have at_ : (M1.put Y.tp (.map es' c')).get Y.tp = some (.map es' c') := by simp [Mem.put]
 obtain ⟨es, c, h1, h2⟩ := h.tpc
 obtain ⟨es', c', h3, h4⟩ := h.mpc
 exact ⟨u1, ho.old h.hpo, k _ _ _ h.hpo (tag_ne (by decide)) (tag_ne (by decide)) h.hpc, ho.old h.ppo, k _ _ _ h.ppo (tag_ne (by decide)) (tag_ne (by decide)) h.ppc, ho.old h.tpo, ⟨_, _, at_, hm⟩,
  ho.old h.mpo, ⟨es', c', k _ _ _ h.mpo (tag_ne (by decide)) (tag_ne (by decide)) h3, h4⟩,
  fun n o hno => ⟨ho.old (h.obj n o hno).1, k _ _ _ (h.obj n o hno).1 (tag_ne (by decide)) (tag_ne (by decide)) (h.obj n o hno).2.1, u2 (tag_ne (by decide)) (tag_ne (by decide)) (h.obj n o hno).2.2⟩,
  u2 (tag_ne (by decide)) (tag_ne (by decide)) h.que, u2 (tag_ne (by decide)) (tag_ne (by decide)) h.buf, u2 (tag_ne (by decide)) (tag_ne (by decide)) h.fin, u2 (tag_ne (by decide)) (tag_ne (by decide)) h.fre⟩
def upd {α : Type} (f : Int → α) (n : Int) (x : α) : Int → α := fun m => if m = n then x else f m
theorem upd_same {α : Type} (f : Int → α) (n : Int) (x : α) : upd f n x n = x := by simp [upd]
theorem upd_ne {α : Type} {f : Int → α} {n m : Int} {x : α} (h : m ≠ n) : upd f n x m = f m := by simp [upd, h]
theorem objF_upd {G : Hp} {Y : Lay} {n : Int} {o x : Ob} (h : G.objs n = some o) {sv : Int → AV} (a : AV) (ha : intKey a) : objF G Y a = objF { G with objs := upd G.objs n (some x) } { Y with sv := sv } a := by
 obtain ⟨m, rfl⟩ := ha
 simp only [objF]
 by_cases e : m = n
 ·subst e; rw [upd_same, h]; rfl
 ·rw [upd_ne e]
theorem HeapB.setObj {M M1 : Mem} {own own1 : Own} {Y : Lay} {G : Hp} (h : HeapB M own Y G) {n : Int} (ho : OwnUp (5, n) M M1 own own1) (hb : But (fun p => own p = some (5, n)) M M1) {o x : Ob} (hno : G.objs n = some o) {v : AV} (hs : SlO M1 own1 (5, n) v 2 (VlL x.slots)) :
  HeapB (M1.put (Y.ob n) (.cells (ObR x v) false)) own1 { Y with sv := upd Y.sv n v } { G with objs := upd G.objs n (some x) } := by
 have ne : ∀ p s, own p = some s → s ≠ (4, n) → p ≠ (Y.ob n) := fun p s h1 h2 e => by rw [e, (h.obj n o hno).1] at h1; cases h1; exact h2 rfl
 have k : ∀ p b s, own p = some s → s ≠ (5, n) → s ≠ (4, n) → M.get p = some b → (M1.put (Y.ob n) (.cells (ObR x v) false)).get p = some b := fun p b s h1 h2 h3 h4 => by
  show (if p = (Y.ob n) then _ else M1.get p) = _
  rw [if_neg (ne p s h1 h3)]
  exact hb.get p b (fun e => by rw [h1] at e; exact h2 (Option.some.inj e)) h4
 obtain ⟨u1, u2⟩ := h.up (5, n) (4, n) ho (M' := (M1.put (Y.ob n) (.cells (ObR x v) false))) hb.next k
 have ks : ∀ {v size L}, SlO M1 own1 (5, n) v size L → SlO (M1.put (Y.ob n) (.cells (ObR x v) false)) own1 (5, n) v size L := fun hs => hs.keep (fun p b h5 h6 => by show (if p = (Y.ob n) then _ else M1.get p) = _; rw [if_neg fun e => by rw [e, ho.old (h.obj n o hno).1] at h5; cases h5]; exact h6) (fun _ h => h)
 have at_ : (M1.put (Y.ob n) (.cells (ObR x v) false)).get (Y.ob n) = some (.cells (ObR x v) false) := by simp [Mem.put]
 obtain ⟨es, c, h1, h2⟩ := h.tpc
 obtain ⟨es', c', h3, h4⟩ := h.mpc
 exact ⟨u1, ho.old h.hpo, k _ _ _ h.hpo (tag_ne (by decide)) (tag_ne (by decide)) h.hpc, ho.old h.ppo, k _ _ _ h.ppo (tag_ne (by decide)) (tag_ne (by decide)) h.ppc, ho.old h.tpo, ⟨es, c, k _ _ _ h.tpo (tag_ne (by decide)) (tag_ne (by decide)) h1, h2⟩,
  ho.old h.mpo, ⟨es', c', k _ _ _ h.mpo (tag_ne (by decide)) (tag_ne (by decide)) h3, h4.congr fun a ha => objF_upd hno a ha⟩,
  fun m x hm => by
   by_cases e : m = n
   ·subst e
    simp only [upd_same] at hm ⊢
    cases hm
    exact ⟨ho.old (h.obj m o hno).1, at_, ks hs⟩
   ·simp only [upd_ne e] at hm ⊢
    exact ⟨ho.old (h.obj m x hm).1, k _ _ _ (h.obj m x hm).1 (tag_ne (by decide)) (fun q => e (congrArg Prod.snd q)) (h.obj m x hm).2.1, u2 (fun q => e (congrArg Prod.snd q)) (tag_ne (by decide)) (h.obj m x hm).2.2⟩,
  u2 (tag_ne (by decide)) (tag_ne (by decide)) h.que, u2 (tag_ne (by decide)) (tag_ne (by decide)) h.buf, u2 (tag_ne (by decide)) (tag_ne (by decide)) h.fin, u2 (tag_ne (by decide)) (tag_ne (by decide)) h.fre⟩
end Go.Proofs.Ythpnhdopheofcaa
end
section
namespace Go.Proofs.Ythpnhdopheofcaa
open Go.Dx
variable {tbl : Nat → Option CFunc}
theorem HeapB.quiet {M M' : Mem} {own : Own} {Y : Lay} {G : Hp} (h : HeapB M own Y G) (hb : But (fun _ => False) M M') : HeapB M' own Y G := h.keep (hb.any _)
theorem never_spec (h : tbl 85 = some cf85) {M : Mem} {n : Int} : CallW tbl 85 (.cons (.int 3 n) .nil) M fun r M' => r = .ret (.bool false) ∧ M' = M := by
 refine CallW.intro h rfl (fr := .nod (.val .leaf (.int 3 n) .leaf) .leaf) rfl ?_
 simp only [go_sem, cf85]
theorem touch_spec (h : tbl 81 = some cf81) (h1 : tbl 85 = some cf85) {M : Mem} {own : Own} {Y : Lay} {G : Hp} {n : Int} (hH : HeapB M own Y G) :
  CallW tbl 81 (.cons (.ptr Y.hp 0) (.cons (.int 3 n) .nil)) M fun r M' => r = .ret (.tuple .nil) ∧ But (fun _ => False) M M' := by
 refine CallW.wf fun hw => ?_
 refine CallW.intro h rfl (fr := .nod (.val .leaf (.ptr Y.hp 0) .leaf) (.val .leaf (.int 3 n) .leaf)) rfl ?_
 have hc := hH.hpc
 simp only [hpC] at hc
 simp only [go_sem, cf81, hc]
 refine (never_spec h1).use ?_
 rintro r M' hw' ⟨rfl, rfl⟩
 simp only [go_sem, hc]
 exact But.same hc _
theorem find_some (h : tbl 75 = some cf75) {M : Mem} {own : Own} {Y : Lay} {G : Hp} {n : Int} {o : Ob} (hH : HeapB M own Y G) (ho : G.objs n = some o) :
  CallW tbl 75 (.cons (.ptr Y.hp 0) (.cons (.int 3 n) .nil)) M fun r M' => r = .ret (.tuple (.cons (.ptr (Y.ob n) 0) (.cons (.int 3 0) .nil))) ∧ M' = M := by
 refine CallW.intro h rfl (fr := .nod (.val .leaf (.ptr Y.hp 0) .leaf) (.val .leaf (.int 3 n) .leaf)) rfl ?_
 have hc := hH.hpc
 simp only [hpC] at hc
 obtain ⟨es, c, h1, h2⟩ := hH.mpc
 have hf := h2.find (.int 3 n) ⟨n, rfl⟩
 simp only [objF, ho, Option.map_some] at hf
 simp only [go_sem, cf75, hc, h1, hf]
theorem find_none (h : tbl 75 = some cf75) {M : Mem} {own : Own} {Y : Lay} {G : Hp} {n : Int} (hH : HeapB M own Y G) (ho : G.objs n = none) :
  CallW tbl 75 (.cons (.ptr Y.hp 0) (.cons (.int 3 n) .nil)) M fun r M' => r = .ret (.tuple (.cons .nilptr (.cons (.int 3 5) .nil))) ∧ M' = M := by
 refine CallW.intro h rfl (fr := .nod (.val .leaf (.ptr Y.hp 0) .leaf) (.val .leaf (.int 3 n) .leaf)) rfl ?_
 have hc := hH.hpc
 simp only [hpC] at hc
 obtain ⟨es, c, h1, h2⟩ := hH.mpc
 have hf := h2.find (.int 3 n) ⟨n, rfl⟩
 simp only [objF, ho, Option.map_none] at hf
 simp only [go_sem, cf75, hc, h1, hf]
def thereV (G : Hp) (v : Vl) : Bool := mayV v && !(v.k == 0) && (!refV v || match G.objs v.n with | some o => o.kind == v.k | none => false)
theorem there_spec (h : tbl 115 = some cf115) (h0 : tbl 77 = some cf77) (h1 : tbl 117 = some cf117) (h2 : tbl 143 = some cf143) {M : Mem} {own : Own} {Y : Lay} {G : Hp} {v : Vl} (hH : HeapB M own Y G) :
  CallW tbl 115 (.cons (.ptr Y.hp 0) (.cons (VlA v) .nil)) M fun r M' => r = .ret (.bool (thereV G v)) ∧ But (fun _ => False) M M' := by
 refine CallW.wf fun hw => ?_
 obtain ⟨k, n⟩ := v
 refine CallW.intro h rfl (fr := .nod (.val .leaf (.ptr Y.hp 0) .leaf) (.val .leaf (VlA ⟨k, n⟩) .leaf)) rfl ?_
 have hb := But.new (S := fun _ => False) hw (.cells [.int 3 k, .int 3 n] false)
 simp only [go_sem, cf115, VlA]
 refine (may_spec h1 h2 (v := ⟨k, n⟩)).use ?_
 rintro r M1 hw1 ⟨rfl, b1⟩
 have hH1 := hH.quiet (hb.trans b1)
 have hv : M1.get M.next = some (.cells [.int 3 k, .int 3 n] false) := b1.get _ _ id (by simp [Mem.new])
 have hc := hH1.hpc
 simp only [hpC] at hc
 obtain ⟨es, c, m1, m2⟩ := hH1.mpc
 have hf := m2.find (.int 3 n) ⟨n, rfl⟩
 simp only [objF] at hf
 cases hmay : mayV ⟨k, n⟩ with
 | false =>
  simp only [go_sem]
  exact ⟨by simp [thereV, hmay], hb.trans b1⟩
 | true =>
  cases hk : k == 0 with
  | true =>
   simp only [go_sem, hv, hk]
   exact ⟨by simp [thereV, hk], hb.trans b1⟩
  | false =>
   cases ho : G.objs n with
   | none =>
    rw [ho] at hf
    simp only [Option.map_none] at hf
    simp only [go_sem, hv, hk, hc, m1, hf]
    refine (ref_spec h0 h1 h2 (v := ⟨k, n⟩)).use ?_
    rintro r M2 hw2 ⟨rfl, b2⟩
    have hv2 := b2.get _ _ id hv
    cases hr : refV ⟨k, n⟩ with
    | false =>
     simp only [go_sem, hv2]
     exact ⟨by simp [thereV, hk, hr, hmay], (hb.trans b1).trans b2⟩
    | true =>
     simp only [go_sem, hv2]
     exact ⟨by simp [thereV, hk, hr, hmay, ho], (hb.trans b1).trans b2⟩
   | some o =>
    rw [ho] at hf
    simp only [Option.map_some] at hf
    obtain ⟨o1, o2, o3⟩ := hH1.obj n o ho
    simp only [ObR] at o2
    simp only [go_sem, hv, hk, hc, m1, hf]
    refine (ref_spec h0 h1 h2 (v := ⟨k, n⟩)).use ?_
    rintro r M2 hw2 ⟨rfl, b2⟩
    have hv2 := b2.get _ _ id hv
    have o4 := b2.get _ _ id o2
    cases hr : refV ⟨k, n⟩ with
    | false =>
     simp only [go_sem, hv2]
     exact ⟨by simp [thereV, hk, hr, hmay], (hb.trans b1).trans b2⟩
    | true =>
     simp only [go_sem, hv2, o4]
     exact ⟨by simp [thereV, hk, hr, hmay, ho], (hb.trans b1).trans b2⟩
end Go.Proofs.Ythpnhdopheofcaa
end
section
namespace Go.Proofs.Ythpnhdopheofcaa
open Go.Dx
variable {tbl : Nat → Option CFunc}
def HeapIs (M : Mem) (hp : Pos) (P : Pos → Prop) (G : Hp) : Prop := ∃ own Y, Y.hp = hp ∧ (∀ p, P p → own p = none ∧ p.num < M.next.num) ∧ HeapB M own Y G
theorem HeapIs.frame {M M' : Mem} {hp : Pos} {P : Pos → Prop} {G : Hp} (h : HeapIs M hp P G) (hb : But P M M') : HeapIs M' hp P G := by
 obtain ⟨own, Y, h1, h2, h3⟩ := h
 refine ⟨own, Y, h1, fun p hp => ⟨(h2 p hp).1, Nat.lt_of_lt_of_le (h2 p hp).2 hb.next⟩, h3.keep (hb.mono fun p hp => (h2 p hp).1)⟩
theorem HeapIs.quiet {M M' : Mem} {hp : Pos} {P : Pos → Prop} {G : Hp} (h : HeapIs M hp P G) (hb : But (fun _ => False) M M') : HeapIs M' hp P G := h.frame (hb.any _)
theorem HeapIs.more {M : Mem} {hp : Pos} {P : Pos → Prop} {G : Hp} (h : HeapIs M hp P G) (hw : M.wf) (b : MB) : HeapIs (M.new b) hp (fun p => P p ∨ p = M.next) G := by
 obtain ⟨own, Y, h1, h2, h3⟩ := h
 have hb := But.new (S := fun _ => False) hw b
 refine ⟨own, Y, h1, fun p hp => ?_, h3.quiet hb⟩
 rcases hp with hp | rfl
 ·exact ⟨(h2 p hp).1, Nat.lt_of_lt_of_le (h2 p hp).2 hb.next⟩
 ·refine ⟨?_, by show _ < M.next.succ.num; rw [Pos.num_succ]; omega⟩
  cases ho : own M.next with
  | none => rfl
  | some s => have := h3.inn M.next (by rw [ho]; simp); omega
theorem HeapIs.less {M : Mem} {hp : Pos} {P Q : Pos → Prop} {G : Hp} (h : HeapIs M hp P G) (hq : ∀ p, Q p → P p) : HeapIs M hp Q G := by
 obtain ⟨own, Y, h1, h2, h3⟩ := h
 exact ⟨own, Y, h1, fun p hp => h2 p (hq p hp), h3⟩
theorem HeapIs.wide {M M' : Mem} {hp : Pos} {P : Pos → Prop} {G : Hp} (h : HeapIs M hp P G) (hb : But (fun _ => False) M M') {q : Pos} (h1 : M.next.num ≤ q.num) (h2 : q.num < M'.next.num) : HeapIs M' hp (fun p => P p ∨ p = q) G := by
 obtain ⟨own, Y, k1, k2, k3⟩ := h
 refine ⟨own, Y, k1, fun p hp => ?_, k3.quiet hb⟩
 rcases hp with hp | rfl
 ·exact ⟨(k2 p hp).1, Nat.lt_of_lt_of_le (k2 p hp).2 hb.next⟩
 ·refine ⟨?_, h2⟩
  cases ho : own p with
  | none => rfl
  | some s => have := k3.inn p (by rw [ho]; simp); omega
theorem HeapIs.not {P : Pos → Prop} {own : Own} {M : Mem} (h2 : ∀ p, P p → own p = none ∧ p.num < M.next.num) {p : Pos} {t : Tag} (h : own p = some t) : ¬ P p := fun e => by rw [(h2 p e).1] at h; cases h
theorem HeapB.setOb {M : Mem} {own : Own} {Y : Lay} {G : Hp} (h : HeapB M own Y G) {n : Int} {o x : Ob} (hno : G.objs n = some o) (hx : x.slots = o.slots) :
  HeapB (M.put (Y.ob n) (.cells (ObR x (Y.sv n)) false)) own Y { G with objs := upd G.objs n (some x) } := by
 have := h.setObj (n := n) (x := x) (v := Y.sv n) (OwnUp.refl _ _ _ _) (But.refl _ _) hno (by rw [hx]; exact (h.obj n o hno).2.2)
 have e : upd Y.sv n (Y.sv n) = Y.sv := by funext m; unfold upd; split <;> simp_all
 rw [e] at this
 exact this
section
variable (h71 : tbl 71 = some cf71) (h77 : tbl 77 = some cf77) (h81 : tbl 81 = some cf81) (h85 : tbl 85 = some cf85) (h115 : tbl 115 = some cf115) (h117 : tbl 117 = some cf117) (h143 : tbl 143 = some cf143)
include h71 h77 h81 h85 h115 h117 h143
theorem counted_no {M : Mem} {own : Own} {Y : Lay} {G : Hp} {v : Vl} (hH : HeapB M own Y G) (hr : refV v = false) :
  CallW tbl 71 (.cons (.ptr Y.hp 0) (.cons (VlA v) .nil)) M fun r M' => r = .ret (.tuple (.cons .nilptr (.cons (.int 3 0) .nil))) ∧ But (fun _ => False) M M' := by
 have _ := h81
 have _ := h85
 have _ := h115
 refine CallW.wf fun hw => ?_
 obtain ⟨k, n⟩ := v
 refine CallW.intro h71 rfl (fr := .nod (.val .leaf (.ptr Y.hp 0) .leaf) (.val .leaf (VlA ⟨k, n⟩) .leaf)) rfl ?_
 have hb := But.new (S := fun _ => False) hw (.cells [.int 3 k, .int 3 n] false)
 simp only [go_sem, cf71, VlA]
 refine (ref_spec h77 h117 h143 (v := ⟨k, n⟩)).use ?_
 rintro r M1 hw1 ⟨rfl, b1⟩
 simp only [go_sem, hr]
 exact hb.trans b1
theorem counted_yes {M : Mem} {own : Own} {Y : Lay} {G : Hp} {v : Vl} {o : Ob} (hH : HeapB M own Y G) (hr : refV v = true) (ho : G.objs v.n = some o) (hk : o.kind = v.k) (hc : o.count ≠ 0) :
  CallW tbl 71 (.cons (.ptr Y.hp 0) (.cons (VlA v) .nil)) M fun r M' => r = .ret (.tuple (.cons (.ptr (Y.ob v.n) 0) (.cons (.int 3 0) .nil))) ∧ But (fun _ => False) M M' := by
 refine CallW.wf fun hw => ?_
 obtain ⟨k, n⟩ := v
 refine CallW.intro h71 rfl (fr := .nod (.val .leaf (.ptr Y.hp 0) .leaf) (.val .leaf (VlA ⟨k, n⟩) .leaf)) rfl ?_
 have hb := But.new (S := fun _ => False) hw (.cells [.int 3 k, .int 3 n] false)
 simp only [go_sem, cf71, VlA]
 refine (ref_spec h77 h117 h143 (v := ⟨k, n⟩)).use ?_
 rintro r M1 hw1 ⟨rfl, b1⟩
 have hH1 := hH.quiet (hb.trans b1)
 have hv : M1.get M.next = some (.cells [.int 3 k, .int 3 n] false) := b1.get _ _ id (by simp [Mem.new])
 have hcc := hH1.hpc
 simp only [hpC] at hcc
 obtain ⟨es, c, m1, m2⟩ := hH1.mpc
 have hf := m2.find (.int 3 n) ⟨n, rfl⟩
 simp only [objF, ho, Option.map_some] at hf
 simp only [go_sem, hr, hv, hcc, m1, hf]
 refine (there_spec h115 h77 h117 h143 (v := ⟨k, n⟩) hH1).use ?_
 rintro r M2 hw2 ⟨rfl, b2⟩
 have hH2 := hH1.quiet b2
 have hth : thereV G ⟨k, n⟩ = true := by
  have hm : mayV ⟨k, n⟩ = true := by simp only [refV, Bool.and_eq_true] at hr; exact hr.2
  have hk5 : 5 ≤ k := by simp only [refV, Bool.and_eq_true, decide_eq_true_eq] at hr; exact hr.1
  have hk0 : (k == 0) = false := by simp; omega
  simp only at ho hk
  simp [thereV, hm, hk0, ho, hk]
 obtain ⟨o1, o2, o3⟩ := hH2.obj n o ho
 simp only [ObR] at o2
 have hc' : (o.count == 0) = false := by simpa using hc
 have hv2 := b2.get _ _ id hv
 simp only [go_sem, hth, o2, hc', hv2]
 refine (touch_spec h81 h85 hH2).use ?_
 rintro r M3 hw3 ⟨rfl, b3⟩
 simp only [go_sem]
 exact ((hb.trans b1).trans b2).trans b3
end
section
variable (h18 : tbl 18 = some cf18) (h71 : tbl 71 = some cf71) (h77 : tbl 77 = some cf77) (h81 : tbl 81 = some cf81) (h85 : tbl 85 = some cf85) (h115 : tbl 115 = some cf115) (h117 : tbl 117 = some cf117) (h143 : tbl 143 = some cf143)
include h18 h71 h77 h81 h85 h115 h117 h143
theorem keep_yes {M : Mem} {hp : Pos} {P : Pos → Prop} {G : Hp} {v : Vl} {o : Ob} (hH : HeapIs M hp P G) (hr : refV v = true) (ho : G.objs v.n = some o) (hk : o.kind = v.k) (hc : o.count ≠ 0) (hc2 : 0 ≤ o.count ∧ o.count < 2 ^ 62) :
  CallW tbl 18 (.cons (.ptr hp 0) (.cons (VlA v) .nil)) M fun r M' => r = .ret (.int 3 0) ∧ HeapIs M' hp P { G with objs := upd G.objs v.n (some { o with count := o.count + 1 }) } ∧ But (fun p => ¬ P p) M M' := by
 refine CallW.wf fun hw => ?_
 obtain ⟨own, Y, rfl, hP, hB⟩ := hH
 obtain ⟨k, n⟩ := v
 refine CallW.intro h18 rfl (fr := .nod (.val .leaf (.ptr Y.hp 0) .leaf) (.val .leaf (VlA ⟨k, n⟩) .leaf)) rfl ?_
 have hb := But.new (S := fun _ => False) hw (.cells [.int 3 k, .int 3 n] false)
 simp only [go_sem, cf18, VlA]
 refine (counted_yes h71 h77 h81 h85 h115 h117 h143 (v := ⟨k, n⟩) (hB.quiet hb) hr ho hk hc).use ?_
 rintro r M1 hw1 ⟨rfl, b1⟩
 have hB1 := hB.quiet (hb.trans b1)
 obtain ⟨o1, o2, o3⟩ := hB1.obj n o ho
 have hset := hB1.setOb (x := { o with count := o.count + 1 }) ho rfl
 simp only [ObR] at o2 hset
 have e1 : IntKind.i64.wrap (o.count + 1) = o.count + 1 := wrap64 (by omega) (by omega)
 simp only [go_sem, o2, e1]
 refine ⟨⟨own, Y, rfl, fun p hp => ⟨(hP p hp).1, Nat.lt_of_lt_of_le (hP p hp).2 (hb.trans b1).next⟩, hset⟩, ?_⟩
 exact ((hb.trans b1).any _).trans (But.put (p := Y.ob n) _ (HeapIs.not hP o1) _)
end
end Go.Proofs.Ythpnhdopheofcaa
end
section
namespace Go.Proofs.Ythpnhdopheofcaa
open Go.Dx
variable {tbl : Nat → Option CFunc}
def FreshSl (M M' : Mem) (v : AV) (size : Nat) (L : List (List AV)) : Prop := ∀ own t, Own.in own M → ∃ own', OwnUp t M M' own own' ∧ SlO M' own' t v size L
theorem FreshSl.rows {M M' : Mem} {v : AV} {size : Nat} {L : List (List AV)} (h : FreshSl M M' v size L) : SlIs M' v size L := by
 obtain ⟨own', _, hs⟩ := h (fun _ => none) (0, 0) (fun p h => absurd rfl h)
 exact hs.rows
theorem FreshSl.cell {M M' : Mem} {v : AV} {size : Nat} {L : List (List AV)} (h : FreshSl M M' v size L) : isCell v = true := by
 obtain ⟨own', _, hs⟩ := h (fun _ => none) (0, 0) (fun p h => absurd rfl h)
 exact hs.cell
theorem FreshSl.keep {M M1 M2 : Mem} {v : AV} {size : Nat} {L : List (List AV)} (h : FreshSl M M1 v size L) (hb : But (fun _ => False) M1 M2) : FreshSl M M2 v size L := by
 intro own t hi
 obtain ⟨own', h1, h2⟩ := h own t hi
 refine ⟨own', fun p => ?_, h2.keep (fun p b _ hp => hb.get p b id hp) fun _ h => h⟩
 rcases h1 p with e | ⟨a, b, c, d⟩
 ·exact .inl e
 ·exact .inr ⟨a, b, c, Nat.lt_of_lt_of_le d hb.next⟩
theorem FreshSl.over {M0 M M1 M2 : Mem} {v : AV} {size : Nat} {L : List (List AV)} (h : FreshSl M M1 v size L) {S : Pos → Prop} (hb : But S M1 M2) (hn : M0.next.num ≤ M.next.num) (hS : ∀ p, S p → M0.next.num ≤ p.num ∧ p.num < M.next.num) : FreshSl M0 M2 v size L := by
 intro own t hi
 obtain ⟨own', h1, h2⟩ := h own t (Own.in.mono hi hn)
 refine ⟨own', fun p => ?_, h2.keep (fun p b ho hp => hb.get p b (fun hs => ?_) hp) fun _ h => h⟩
 ·rcases h1 p with e | ⟨a, b, c, d⟩
  ·exact .inl e
  ·exact .inr ⟨a, b, by omega, Nat.lt_of_lt_of_le d hb.next⟩
 ·have h3 := hS p hs
  rcases h1 p with e | ⟨a, b, c, d⟩
  ·have := hi p (by rw [← e, ho]; simp); omega
  ·omega
theorem FreshSl.old {M0 M M1 : Mem} {v : AV} {size : Nat} {L : List (List AV)} (h : FreshSl M M1 v size L) (hn : M0.next.num ≤ M.next.num) : FreshSl M0 M1 v size L := by
 intro own t hi
 obtain ⟨own', h1, h2⟩ := h own t (Own.in.mono hi hn)
 refine ⟨own', fun p => ?_, h2⟩
 rcases h1 p with e | ⟨a, b, c, d⟩
 ·exact .inl e
 ·exact .inr ⟨a, b, by omega, d⟩
theorem slLen_shape {a : AV} {n : Nat} (h : slLen a = some n) : a = .nilslice ∨ (∃ p o c, a = .slice p o n c) ∨ ∃ p o s, a = .oslice p o n s := by
 cases a <;> simp only [slLen, reduceCtorEq] at h
 ·cases h; exact .inr (.inl ⟨_, _, _, rfl⟩)
 ·cases h; exact .inr (.inr ⟨_, _, _, rfl⟩)
 ·exact .inl rfl
theorem clone_app {M : Mem} {a : AV} {size : Nat} {L : List (List AV)} (hw : M.wf) (ha : SlIs M a size L) (hc : ∀ x ∈ L, x.all isCell = true) (hs : 0 < size) (hm : L.length ≤ most) (hn : Go.Dx.lenOf a = some L.length) (hst : ∀ l n, a ≠ .str l n) :
  ∃ v' M', appO (M.new (.cells [] false)) size (.slice M.next 0 0 0) a = some (v', M') ∧ But (fun _ => False) M M' ∧ M'.wf ∧ FreshSl M M' v' size L := by
 have hb := But.new (S := fun _ => False) hw (.cells [] false)
 have hw1 := hw.new (.cells [] false)
 have ha1 := ha.but hb fun _ _ _ _ => id
 have hsrc := ha1.src hn hst
 have hx : ∀ x ∈ L, x.length = size ∧ x.all isCell = true := fun x h => ⟨ha.2.1 x h, hc x h⟩
 have app := fun (own : Own) (t : Tag) (hi : own.in (M.new (.cells [] false))) => (SlO.none_ (M.new (.cells [] false)) own t size M.next).append_ hw1 hi hx hs (by simpa using hm)
 obtain ⟨v', M', own', h1, h2, h3, h4, h5⟩ := app (fun _ => none) (0, 0) (fun p h => absurd rfl h)
 refine ⟨v', M', ?_, hb.trans (h4.mono fun p h => by cases h), h5, fun own t hi => ?_⟩
 ·simp only [appO, hn, Option.bind_some, hsrc]; exact h1
 ·obtain ⟨v'', M'', own'', g1, g2, g3, g4, g5⟩ := app own t (Own.in.mono hi hb.next)
  rw [h1] at g1
  cases g1
  refine ⟨own'', fun p => ?_, by simpa using g2⟩
  have hnx := hb.next
  rcases g3 p with e | ⟨a, b, c, d⟩
  ·exact .inl e
  ·exact .inr ⟨a, b, by omega, d⟩
theorem clone_spec (h : tbl 76 = some cf76) {M : Mem} {a : AV} {L : List (List AV)} (ha : SlIs M a 2 L) (hc : ∀ x ∈ L, x.all isCell = true) (hm : L.length ≤ most) :
  CallW tbl 76 (.cons a .nil) M fun r M' => ∃ v, r = .ret v ∧ But (fun _ => False) M M' ∧ FreshSl M M' v 2 L := by
 refine CallW.wf fun hw => ?_
 refine CallW.intro h rfl (fr := .nod (.val .leaf a .leaf) .leaf) rfl ?_
 have hl := ha.len
 rcases slLen_shape hl with rfl | ⟨p, o, c, rfl⟩ | ⟨p, o, s, rfl⟩
 ·have : L = [] := by
   simp only [slLen, Option.some.injEq] at hl
   exact List.length_eq_zero_iff.1 hl.symm
  subst this
  simp only [go_sem, cf76]
  exact ⟨.nilslice, rfl, But.refl _ _, fun own t hi => ⟨own, OwnUp.refl _ _ _ _, SlO.nil _ _ _ _⟩⟩
 ·obtain ⟨v', M', h1, h2, h3, h4⟩ := clone_app hw ha hc (by omega) hm rfl (by simp)
  simp only [go_sem, cf76, h1]
  exact ⟨v', rfl, h2, h4⟩
 ·obtain ⟨v', M', h1, h2, h3, h4⟩ := clone_app hw ha hc (by omega) hm rfl (by simp)
  simp only [go_sem, cf76, h1]
  exact ⟨v', rfl, h2, h4⟩
end Go.Proofs.Ythpnhdopheofcaa
end
section
namespace Go.Proofs.Ythpnhdopheofcaa
open Go.Dx
variable {tbl : Nat → Option CFunc}
def ObA (o : Ob) (sv : AV) : AV := .agg (.cons (.int 3 o.kind) (.cons (.int 3 o.count) (.cons sv (.cons (.str o.tl o.tn) (.cons (.int 3 o.mark) .nil)))))
theorem vlL_cells (l : List Vl) : ∀ y ∈ VlL l, y.all isCell = true := by intro y hy; simp [VlL] at hy; obtain ⟨z, _, rfl⟩ := hy; rfl
theorem vlL_len (l : List Vl) : (VlL l).length = l.length := by simp [VlL]
section
variable (h25 : tbl 25 = some cf25) (h75 : tbl 75 = some cf75) (h76 : tbl 76 = some cf76)
include h25 h75 h76
theorem obj_some {M : Mem} {hp : Pos} {P : Pos → Prop} {G : Hp} {n : Int} {o : Ob} (hH : HeapIs M hp P G) (ho : G.objs n = some o) (hl : o.slots.length ≤ most) :
  CallW tbl 25 (.cons (.ptr hp 0) (.cons (.int 3 n) .nil)) M fun r M' => ∃ sv, r = .ret (ObA o sv) ∧ FreshSl M M' sv 2 (VlL o.slots) ∧ But (fun _ => False) M M' := by
 refine CallW.wf fun hw => ?_
 obtain ⟨own, Y, rfl, hP, hB⟩ := hH
 refine CallW.intro h25 rfl (fr := .nod (.val .leaf (.ptr Y.hp 0) .leaf) (.val .leaf (.int 3 n) .leaf)) rfl ?_
 simp only [go_sem, cf25]
 have b1 := But.new (S := fun _ => False) hw (.cells [.int 3 0, .int 3 0, .nilslice, .str 0 0, .int 3 0] false)
 have w1 := hw.new (.cells [.int 3 0, .int 3 0, .nilslice, .str 0 0, .int 3 0] false)
 refine (find_some h75 (hB.quiet b1) ho).use ?_
 rintro r M1 hw1 ⟨rfl, rfl⟩
 obtain ⟨o1, o2, o3⟩ := (hB.quiet b1).obj n o ho
 simp only [ObR] at o2
 have ne := hw1.ne o2
 have hc := o3.cell
 simp only [go_sem] at ne
 simp only [go_sem, o2, ne, hc]
 have b2 := But.fill w1 (.cells [.int 3 0, .int 3 0, .nilslice, .str 0 0, .int 3 0] false) (.cells [.int 3 o.kind, .int 3 o.count, Y.sv n, .str o.tl o.tn, .int 3 o.mark] false)
 have w2 := w1.fill (.cells [.int 3 0, .int 3 0, .nilslice, .str 0 0, .int 3 0] false) (.cells [.int 3 o.kind, .int 3 o.count, Y.sv n, .str o.tl o.tn, .int 3 o.mark] false)
 have hr := (o3.rows).but b2 fun _ _ _ _ => id
 refine (clone_spec h76 hr (vlL_cells _) (by rw [vlL_len]; exact hl)).use ?_
 rintro r M2 hw2 ⟨sv, rfl, b3, hf⟩
 have e1 : M2.get M.next.succ = some (.cells [.int 3 o.kind, .int 3 o.count, Y.sv n, .str o.tl o.tn, .int 3 o.mark] false) := b3.get _ _ id (by simp [Mem.put, Mem.new])
 have e2 : M2.get M.next = some (.cells [.int 3 0, .int 3 0, .nilslice, .str 0 0, .int 3 0] false) := b3.get _ _ id (by simp only [go_sem])
 have hsc := hf.cell
 simp only [go_sem, e1, e2, hsc]
 have n2 : M.next.succ.num = M.next.num + 1 := Pos.num_succ _
 have n3 : M.next.succ.succ.num = M.next.num + 2 := by rw [Pos.num_succ, n2]
 have bp : But (fun p => p = M.next ∨ p = M.next.succ) M2 ((M2.put M.next.succ (.cells [.int 3 o.kind, .int 3 o.count, sv, .str o.tl o.tn, .int 3 o.mark] false)).put M.next (.cells [.int 3 o.kind, .int 3 o.count, sv, .str o.tl o.tn, .int 3 o.mark] false)) :=
  (But.put (p := M.next.succ) _ (.inr rfl) _).trans (But.put (p := M.next) _ (.inl rfl) _)
 refine ⟨sv, rfl, hf.over bp ?_ ?_, But.fresh hw (((b1.trans b2).trans b3).any _ |>.trans (bp.mono ?_))⟩
 ·show M.next.num ≤ M.next.succ.succ.num; omega
 ·rintro p (rfl | rfl)
  ·show M.next.num ≤ M.next.num ∧ M.next.num < M.next.succ.succ.num; omega
  ·show M.next.num ≤ M.next.succ.num ∧ M.next.succ.num < M.next.succ.succ.num; omega
 ·rintro p (rfl | rfl)
  ·exact .inr (Nat.le_refl _)
  ·exact .inr (by rw [n2]; omega)
theorem obj_none {M : Mem} {hp : Pos} {P : Pos → Prop} {G : Hp} {n : Int} (hH : HeapIs M hp P G) (ho : G.objs n = none) :
  CallW tbl 25 (.cons (.ptr hp 0) (.cons (.int 3 n) .nil)) M fun r M' => r = .ret (ObA ⟨0, 0, [], 0, 0, 0⟩ .nilslice) ∧ But (fun _ => False) M M' := by
 have _ := h76
 refine CallW.wf fun hw => ?_
 obtain ⟨own, Y, rfl, hP, hB⟩ := hH
 refine CallW.intro h25 rfl (fr := .nod (.val .leaf (.ptr Y.hp 0) .leaf) (.val .leaf (.int 3 n) .leaf)) rfl ?_
 simp only [go_sem, cf25]
 have b1 := But.new (S := fun _ => False) hw (.cells [.int 3 0, .int 3 0, .nilslice, .str 0 0, .int 3 0] false)
 refine (find_none h75 (hB.quiet b1) ho).use ?_
 rintro r M1 hw1 ⟨rfl, rfl⟩
 simp only [go_sem]
 first | exact But.fill hw _ _ | exact ⟨rfl, But.fill hw _ _⟩
end
section
variable (h80 : tbl 80 = some cf80) (h75 : tbl 75 = some cf75)
include h80 h75
theorem at_some {M : Mem} {hp : Pos} {P : Pos → Prop} {G : Hp} {n : Int} {i : Nat} {o : Ob} (hH : HeapIs M hp P G) (ho : G.objs n = some o) (hi : i < o.slots.length) :
  CallW tbl 80 (.cons (.ptr hp 0) (.cons (.int 3 n) (.cons (.int 3 (i : Int)) .nil))) M fun r M' => r = .ret (.tuple (.cons (VlA o.slots[i]) (.cons (.int 3 0) .nil))) ∧ But (fun _ => False) M M' := by
 refine CallW.wf fun hw => ?_
 obtain ⟨own, Y, rfl, hP, hB⟩ := hH
 refine CallW.intro h80 rfl (fr := .nod (.val (.val .leaf (.int 3 (i : Int)) .leaf) (.ptr Y.hp 0) .leaf) (.val .leaf (.int 3 n) .leaf)) rfl ?_
 simp only [go_sem, cf80]
 have b1 := But.new (S := fun _ => False) hw (.cells [.int 3 0, .int 3 0] false)
 refine (find_some h75 (hB.quiet b1) ho).use ?_
 rintro r M1 hw1 ⟨rfl, rfl⟩
 obtain ⟨o1, o2, o3⟩ := (hB.quiet b1).obj n o ho
 simp only [ObR] at o2
 have hl := o3.len
 rw [vlL_len] at hl
 have g : decide ((i : Int) < 0) = false := by simp
 have g2 : decide ((o.slots.length : Int) ≤ (i : Int)) = false := by simp; omega
 obtain ⟨p, po, a1, a2⟩ := o3.rows.at_ (i := i) (by rw [vlL_len]; exact hi)
 have a3 : (VlL o.slots)[i]? = some [.int 3 o.slots[i].k, .int 3 o.slots[i].n] := by simp [VlL, VlR, hi]
 rw [a3] at a2
 simp only [go_sem] at a2
 rw [vlL_len] at a1
 simp only [go_sem, g, VlA, o2, hl, g2, a1, a2, hi]
 first | exact But.fill hw _ _ | exact ⟨rfl, But.fill hw _ _⟩
end
end Go.Proofs.Ythpnhdopheofcaa
end
section
namespace Go.Proofs.Ythpnhdopheofcaa
open Go.Dx
variable {tbl : Nat → Option CFunc}
end Go.Proofs.Ythpnhdopheofcaa
end
section
namespace Go.Proofs.Ythpnhdopheofcaa
open Go.Dx
variable {tbl : Nat → Option CFunc}
end Go.Proofs.Ythpnhdopheofcaa
end
section
namespace Go.Proofs.Ythpnhdopheofcaa
open Go.Dx
variable {tbl : Nat → Option CFunc}
theorem int_at {M : Mem} {a : AV} {l : List Int} (h : SlIs M a 1 (IntL l)) {i : Nat} (hi : i < l.length) : ∃ p o n, slAt a = some (p, o, n) ∧ i < n ∧ MB.cell (M.get p) (o + i * 1) = some (.int 3 (l[i]'hi)) := by
 obtain ⟨p, o, h1, h2⟩ := h.at_ (i := i) (by simpa [IntL] using hi)
 refine ⟨p, o, _, h1, by simpa [IntL] using hi, MB.cell_one ?_⟩
 rw [h2]
 simp [IntL, List.getElem?_eq_getElem hi]
theorem intL_len (l : List Int) : (IntL l).length = l.length := by simp [IntL]
theorem index_spec (h : tbl 120 = some cf120) {M : Mem} {a : AV} {l : List Int} {v : Int} (ha : SlIs M a 1 (IntL l)) (hl : l.length < 2 ^ 62) :
  CallW tbl 120 (.cons a (.cons (.int 3 v) .nil)) M fun r M' => (∃ i : Int, r = .ret (.int 3 i) ∧ (0 ≤ i ↔ v ∈ l)) ∧ M' = M := by
 refine CallW.intro h rfl (fr := .nod (.val .leaf a .leaf) (.val .leaf (.int 3 v) .leaf)) rfl ?_
 have la : slLen a = some l.length := by rw [ha.len, intL_len]
 simp only [go_sem, cf120, la]
 refine loop_wp (I := fun n fr M' => ∃ i, i ≤ l.length ∧ n = l.length - i ∧ M' = M ∧ v ∉ l.take i ∧ fr.get (.o .h) = some a ∧ fr.get (.i .h) = some (.int 3 v) ∧ fr.get (.i (.o (.o .h))) = some (.int 3 l.length) ∧ fr.get (.o (.i (.o .h))) = some (.int 3 (i : Nat))) (n := l.length) ?_ ?_
 ·exact ⟨0, by omega, by omega, rfl, by simp, rfl, rfl, rfl, rfl⟩
 ·rintro n fr M' ⟨i, hi, rfl, rfl, hnot, f1, f2, f3, f4⟩
  by_cases hlt : i < l.length
  ·have g : decide ((i : Int) < (l.length : Int)) = true := by simp; omega
   obtain ⟨p, o, n, s1, k1, c1⟩ := int_at ha hlt
   cases he : (v == l[i]) with
   | true =>
    simp only [go_sem, f1, f2, f3, f4, g, s1, k1, c1, he]
    refine ⟨(i : Int), rfl, ?_⟩
    have : v = l[i] := by simpa using he
    constructor
    ·intro _; rw [this]; exact List.getElem_mem hlt
    ·intro _; omega
   | false =>
    simp only [go_sem, f1, f2, f3, f4, g, s1, k1, c1, he]
    refine ⟨l.length - (i + 1), by omega, i + 1, by omega, rfl, rfl, ?_, ?_⟩
    ·rw [List.take_succ_eq_append_getElem hlt]
     have : v ≠ l[i] := by simpa using he
     intro hm
     rcases List.mem_append.1 hm with h | h
     ·exact hnot h
     ·exact this (List.mem_singleton.1 h)
    ·simp [Tr.get_set, f1, f2, f3, wrap_succ (show i < 2 ^ 62 by omega)]
  ·have : i = l.length := by omega
   subst this
   have g : decide ((l.length : Int) < (l.length : Int)) = false := by simp
   rw [List.take_length] at hnot
   simp only [go_sem, f1, f2, f3, f4, g]
   exact ⟨-1, rfl, by simp [hnot]⟩
theorem contains_spec (h : tbl 83 = some cf83) (h1 : tbl 120 = some cf120) {M : Mem} {a : AV} {l : List Int} {v : Int} (ha : SlIs M a 1 (IntL l)) (hl : l.length < 2 ^ 62) :
  CallW tbl 83 (.cons a (.cons (.int 3 v) .nil)) M fun r M' => r = .ret (.bool (decide (v ∈ l))) ∧ M' = M := by
 refine CallW.intro h rfl (fr := .nod (.val .leaf a .leaf) (.val .leaf (.int 3 v) .leaf)) rfl ?_
 simp only [go_sem, cf83]
 refine (index_spec h1 ha hl).use ?_
 rintro r M' hw' ⟨⟨i, rfl, hi⟩, rfl⟩
 have g : decide (0 ≤ i) = decide (v ∈ l) := by simp only [hi]
 simp only [go_sem, g]
section
variable (h38 : tbl 38 = some cf38) (h71 : tbl 71 = some cf71) (h77 : tbl 77 = some cf77) (h81 : tbl 81 = some cf81) (h83 : tbl 83 = some cf83) (h85 : tbl 85 = some cf85) (h115 : tbl 115 = some cf115) (h117 : tbl 117 = some cf117) (h120 : tbl 120 = some cf120) (h143 : tbl 143 = some cf143)
include h38 h71 h77 h81 h83 h85 h115 h117 h120 h143
theorem drop_no {M : Mem} {hp : Pos} {P : Pos → Prop} {G : Hp} {v : Vl} (hH : HeapIs M hp P G) (hr : refV v = false) :
  CallW tbl 38 (.cons (.ptr hp 0) (.cons (VlA v) .nil)) M fun r M' => r = .ret (.int 3 0) ∧ But (fun _ => False) M M' := by
 have _ := h83
 have _ := h120
 refine CallW.wf fun hw => ?_
 obtain ⟨own, Y, rfl, hP, hB⟩ := hH
 obtain ⟨k, n⟩ := v
 refine CallW.intro h38 rfl (fr := .nod (.val .leaf (.ptr Y.hp 0) .leaf) (.val .leaf (VlA ⟨k, n⟩) .leaf)) rfl ?_
 have hb := But.new (S := fun _ => False) hw (.cells [.int 3 k, .int 3 n] false)
 simp only [go_sem, cf38, VlA]
 refine (counted_no h71 h77 h81 h85 h115 h117 h143 (v := ⟨k, n⟩) (hB.quiet hb) hr).use ?_
 rintro r M1 hw1 ⟨rfl, b1⟩
 simp only [go_sem]
 exact hb.trans b1
theorem drop_more {M : Mem} {hp : Pos} {P : Pos → Prop} {G : Hp} {v : Vl} {o : Ob} (hH : HeapIs M hp P G) (hr : refV v = true) (ho : G.objs v.n = some o) (hk : o.kind = v.k) (hk5 : o.kind ≠ 5) (hc : 2 ≤ o.count ∧ o.count < 2 ^ 62) (hl : G.buffer.length < 2 ^ 30) :
  CallW tbl 38 (.cons (.ptr hp 0) (.cons (VlA v) .nil)) M fun r M' => r = .ret (.int 3 0) ∧ HeapIs M' hp P { G with objs := upd G.objs v.n (some { o with count := o.count - 1 }), buffer := if v.n ∈ G.buffer then G.buffer else G.buffer ++ [v.n] } ∧ But (fun p => ¬ P p) M M' := by
 refine CallW.wf fun hw => ?_
 obtain ⟨own, Y, rfl, hP, hB⟩ := hH
 obtain ⟨k, n⟩ := v
 refine CallW.intro h38 rfl (fr := .nod (.val .leaf (.ptr Y.hp 0) .leaf) (.val .leaf (VlA ⟨k, n⟩) .leaf)) rfl ?_
 have hb := But.new (S := fun _ => False) hw (.cells [.int 3 k, .int 3 n] false)
 simp only [go_sem, cf38, VlA]
 refine (counted_yes h71 h77 h81 h85 h115 h117 h143 (v := ⟨k, n⟩) (hB.quiet hb) hr ho hk (by omega)).use ?_
 rintro r M1 hw1 ⟨rfl, b1⟩
 have hB1 := hB.quiet (hb.trans b1)
 obtain ⟨o1, o2, o3⟩ := hB1.obj n o ho
 have hset := hB1.setOb (x := { o with count := o.count - 1 }) ho rfl
 have e0 : M1.get M.next = some (.cells [.int 3 k, .int 3 n] false) := b1.get _ _ id (by simp only [go_sem])
 have ne4 := hw.ne' (hB.obj n o ho).2.1
 simp only [ObR] at o2 hset
 have e1 : IntKind.i64.wrap (o.count - 1) = o.count - 1 := wrap64 (by omega) (by omega)
 have g0 : (o.count - 1 == 0) = false := by simp; omega
 have g5 : (o.kind != 5) = true := by simp [hk5]
 have hcc := hset.hpc
 simp only [hpC] at hcc
 have nhp : (Y.hp = Y.ob n) = False := eq_false fun e => by have := hB.hpo; rw [e, o1] at this; cases this
 have hc1 := hB1.hpc
 simp only [hpC] at hc1
 simp only [go_sem, e0, o2, e1, g0, g5, hc1, nhp]
 have bset : But (fun p => ¬ P p) M (M1.put (Y.ob n) (.cells [.int 3 o.kind, .int 3 (o.count - 1), Y.sv n, .str o.tl o.tn, .int 3 o.mark] false)) := ((hb.trans b1).any _).trans (But.put (p := Y.ob n) _ (HeapIs.not hP o1) _)
 have wset := hw1.put o2 (.cells [.int 3 o.kind, .int 3 (o.count - 1), Y.sv n, .str o.tl o.tn, .int 3 o.mark] false)
 have hPn : ∀ p, P p → own p = none ∧ p.num < M1.next.num := fun p hp => ⟨(hP p hp).1, Nat.lt_of_lt_of_le (hP p hp).2 (hb.trans b1).next⟩
 refine (contains_spec h83 h120 hset.buf.rows (by show G.buffer.length < _; omega)).use ?_
 rintro r M2 hw2 ⟨rfl, rfl⟩
 by_cases hin : n ∈ G.buffer
 ·have g : decide (n ∈ G.buffer) = true := by simp [hin]
  simp only [g]
  simp only [go_sem, hin, if_true]
  exact ⟨⟨own, Y, rfl, hPn, hset⟩, bset⟩
 ·have g : decide (n ∈ G.buffer) = false := by simp [hin]
  obtain ⟨v3, M3, own3, p3, s3, u3, b3, w3⟩ := hset.buf.push_ wset hset.inn (n := 1) (c := 1) (X := [[.int 3 n]]) (x := [.int 3 n]) rfl rfl (by simp [isCell]) (by omega) (by rw [intL_len]; show G.buffer.length + 1 ≤ most; simp [most]; omega)
  have o5 : M3.get Y.hp = some (.cells [.ptr Y.pp 0, .map Y.mp, Y.qv, Y.bv, Y.fv, .int 3 G.marks, .func (.func 85) .nil .nil, .bool false] false) := b3.get _ _ (fun e => by rw [hB.hpo] at e; cases e) hcc
  have hc3 := s3.cell
  simp only [go_sem] at p3
  simp only [g]
  simp only [go_sem, hin, if_false, nhp, hc1, p3, o5, hc3]
  have hfin := hset.setBuf (l := G.buffer ++ [n]) (v := v3) u3 b3 (by simpa [IntL] using s3)
  refine ⟨⟨own3, { Y with bv := v3 }, rfl, fun p hp => ⟨u3.none_ (hPn p hp).1 (hPn p hp).2, Nat.lt_of_lt_of_le (hPn p hp).2 b3.next⟩, hfin⟩, ?_⟩
  exact (bset.trans (b3.mono fun p h => HeapIs.not hP h)).trans (But.put (p := Y.hp) _ (HeapIs.not hP hB.hpo) _)
end
end Go.Proofs.Ythpnhdopheofcaa
end
section
namespace Go.Proofs.Ythpnhdopheofcaa
open Go.Dx
variable {tbl : Nat → Option CFunc}
theorem poolnone_spec (h : tbl 130 = some cf130) {M : Mem} {own : Own} {Y : Lay} {G : Hp} (hB : HeapB M own Y G) :
  CallW tbl 130 (.cons (.ptr Y.pp 0) .nil) M fun r M' => r = .ret (.bool false) ∧ M' = M := by
 refine CallW.intro h rfl (fr := .nod (.val .leaf (.ptr Y.pp 0) .leaf) .leaf) rfl ?_
 have hc := hB.ppc
 simp only [ppC] at hc
 simp only [go_sem, cf130, hc]
theorem takenF_upd (G : Hp) (n : Int) : ∀ a, intKey a → updF (takenF G) (.int 3 n) (some (.agg .nil)) a = takenF { G with taken := upd G.taken n true } a := by
 rintro a ⟨m, rfl⟩
 by_cases h : m = n
 ·subst h; rw [updF_same]; simp [takenF, upd]
 ·rw [updF_ne _ _ (by simpa using h)]; simp [takenF, upd, h]
def takeN (G : Hp) : Int := match G.free.getLast? with | some m => m | none => G.next
def takeG (G : Hp) : Hp := { G with taken := upd G.taken (takeN G) true, free := G.free.dropLast, next := if G.free = [] then G.next + 1 else G.next }
theorem take_new (h : tbl 99 = some cf99) (h1 : tbl 130 = some cf130) {M : Mem} {own : Own} {Y : Lay} {G : Hp} (hB : HeapB M own Y G) (hf : G.free = []) (hn : -(2 ^ 62) ≤ G.next ∧ G.next < 2 ^ 62) :
  CallW tbl 99 (.cons (.ptr Y.pp 0) .nil) M fun r M' => r = .ret (.int 3 (takeN G)) ∧ HeapB M' own Y (takeG G) ∧ But (fun p => own p ≠ none) M M' := by
 refine CallW.intro h rfl (fr := .nod (.val .leaf (.ptr Y.pp 0) .leaf) .leaf) rfl ?_
 simp only [go_sem, cf99]
 refine (poolnone_spec h1 hB).use ?_
 rintro r M1 hw1 ⟨rfl, rfl⟩
 have hc := hB.ppc
 simp only [ppC] at hc
 have hl := hB.fre.len
 rw [intL_len, hf] at hl
 have e0 : IntKind.i64.wrap (0 - 1) = -1 := by decide
 have e1 : IntKind.i64.wrap (G.next + 1) = G.next + 1 := wrap64 (by omega) (by omega)
 have hset := hB.setFree (v := Y.rv) (l := []) (OwnUp.refl _ _ _ _) (But.refl _ _) (by rw [← hf]; exact hB.fre) (G.next + 1)
 obtain ⟨es, c, m1, m2⟩ := hset.tpc
 obtain ⟨m2, m3⟩ := m2
 obtain ⟨es', fr, p1, p2⟩ := m2.put (goodInt 3) (a := .int 3 G.next) (v := .agg .nil) ⟨_, rfl⟩ c
 have ntp : (Y.tp = Y.pp) = False := eq_false fun e => by have := hB.tpo; rw [e, hB.ppo] at this; cases this
 have npt : (Y.pp = Y.tp) = False := eq_false fun e => by have := hB.tpo; rw [← e, hB.ppo] at this; cases this
 have m0 := m1
 rw [show ({ Y with rv := Y.rv } : Lay).tp = Y.tp from rfl] at m0
 simp only [go_sem, hc, hl, e0, e1, ntp, npt]
 simp only [go_sem, ntp] at m0
 simp only [go_sem, m0, p1]
 have eN : takeN G = G.next := by simp [takeN, hf]
 have hfin := hset.setTaken (OwnUp.refl _ _ _ _) (But.refl _ _) (c' := if fr = true then c + 1 else c) (f := upd G.taken G.next true) ⟨p2.congr (takenF_upd _ _), put_born m3 p1⟩
 have eG : takeG G = { G with taken := upd G.taken G.next true, free := [], next := G.next + 1 } := by simp [takeG, eN, hf]
 refine ⟨by rw [eN], by rw [eG]; exact hfin, ?_⟩
 exact (But.put (p := Y.pp) _ (by rw [hB.ppo]; simp) _).trans (But.put (p := Y.tp) _ (by rw [hB.tpo]; simp) _)
end Go.Proofs.Ythpnhdopheofcaa
end
section
namespace Go.Proofs.Ythpnhdopheofcaa
open Go.Dx
variable {tbl : Nat → Option CFunc}
theorem HeapB.addObj {M : Mem} {own : Own} {Y : Lay} {G : Hp} (h : HeapB M own Y G) {q : Pos} {n : Int} {o : Ob} (hq : own q = none) (hlt : q.num < M.next.num) (hg : M.get q = some (.cells (ObR o .nilslice) false)) (hs : o.slots = [])
  {es' : ME} {c' : Nat} (hm : MapIs (.leaf .int) intKey es' (objF { G with objs := upd G.objs n (some o) } { Y with ob := upd Y.ob n q, sv := upd Y.sv n .nilslice })) :
  HeapB (M.put Y.mp (.map es' c')) (own.with q (4, n)) { Y with ob := upd Y.ob n q, sv := upd Y.sv n .nilslice } { G with objs := upd G.objs n (some o) } := by
 have ko : ∀ {p t}, own p = some t → own.with q (4, n) p = some t := fun {p t} hp => by
  unfold Own.with
  rw [if_neg (fun e => by rw [e, hq] at hp; cases hp)]; exact hp
 have k : ∀ p b s, own p = some s → s ≠ (3, 0) → M.get p = some b → (M.put Y.mp (.map es' c')).get p = some b := fun p b s h1 h2 h3 => by
  show (if p = Y.mp then _ else M.get p) = _
  rw [if_neg (fun e => by rw [e, h.mpo] at h1; cases h1; exact h2 rfl)]; exact h3
 have ks : ∀ {s v size L}, s ≠ (3, 0) → SlO M own s v size L → SlO (M.put Y.mp (.map es' c')) (own.with q (4, n)) s v size L := fun hs hso => hso.keep (fun p b ho hp => k p b _ ho hs hp) fun _ h => ko h
 obtain ⟨es, c, h1, h2⟩ := h.tpc
 refine ⟨fun p hp => ?_, ko h.hpo, k _ _ _ h.hpo (tag_ne (by decide)) h.hpc, ko h.ppo, k _ _ _ h.ppo (tag_ne (by decide)) h.ppc, ko h.tpo, ⟨es, c, k _ _ _ h.tpo (tag_ne (by decide)) h1, h2⟩,
  ko h.mpo, ⟨es', c', by simp [Mem.put], hm⟩, fun m x hx => ?_, ks (tag_ne (by decide)) h.que, ks (tag_ne (by decide)) h.buf, ks (tag_ne (by decide)) h.fin, ks (tag_ne (by decide)) h.fre⟩
 ·unfold Own.with at hp
  split at hp
  ·rename_i e; subst e; exact hlt
  ·exact h.inn p hp
 ·by_cases e : m = n
  ·subst e
   simp only [upd_same] at hx ⊢
   cases hx
   refine ⟨by simp [Own.with], ?_, by rw [hs]; exact SlO.nil _ _ _ _⟩
   show (if q = Y.mp then _ else M.get q) = _
   rw [if_neg (fun e => by rw [e, h.mpo] at hq; cases hq)]; exact hg
  ·simp only [upd_ne e] at hx ⊢
   exact ⟨ko (h.obj m x hx).1, k _ _ _ (h.obj m x hx).1 (tag_ne (by decide)) (h.obj m x hx).2.1, ks (tag_ne (by decide)) (h.obj m x hx).2.2⟩
theorem objF_add (G : Hp) (Y : Lay) (n : Int) (q : Pos) (o : Ob) {sv : Int → AV} : ∀ a, intKey a → updF (objF G Y) (.int 3 n) (some (.ptr q 0)) a = objF { G with objs := upd G.objs n (some o) } { Y with ob := upd Y.ob n q, sv := sv } a := by
 rintro a ⟨m, rfl⟩
 by_cases h : m = n
 ·subst h; rw [updF_same]; simp [objF, upd]
 ·rw [updF_ne _ _ (by simpa using h)]; simp [objF, upd, h]
theorem make_new (h48 : tbl 48 = some cf48) (h99 : tbl 99 = some cf99) (h130 : tbl 130 = some cf130) {M : Mem} {hp : Pos} {P : Pos → Prop} {G : Hp} {k : Int} (hH : HeapIs M hp P G) (hk : 6 ≤ k ∧ k ≤ 9) (hf : G.free = []) (hn : -(2 ^ 62) ≤ G.next ∧ G.next < 2 ^ 62) :
  CallW tbl 48 (.cons (.ptr hp 0) (.cons (.int 3 k) (.cons (.str 0 0) .nil))) M fun r M' => r = .ret (VlA ⟨k, G.next⟩) ∧ HeapIs M' hp P { takeG G with objs := upd G.objs G.next (some ⟨k, 1, [], 0, 0, 0⟩) } ∧ But (fun p => ¬ P p) M M' := by
 refine CallW.wf fun hw => ?_
 obtain ⟨own, Y, rfl, hP, hB⟩ := hH
 refine CallW.intro h48 rfl (fr := .nod (.val (.val .leaf (.str 0 0) .leaf) (.ptr Y.hp 0) .leaf) (.val .leaf (.int 3 k) .leaf)) rfl ?_
 have g1 : decide (k < 5) = false := by simp; omega
 have g2 : decide (9 < k) = false := by simp; omega
 have g3 : (k == 5) = false := by simp; omega
 have b1 := But.new (S := fun _ => False) hw (.cells [.int 3 0, .int 3 0] false)
 have w1 := hw.new (.cells [.int 3 0, .int 3 0] false)
 have b2 := But.new (S := fun _ => False) w1 (.cells [.int 3 k, .int 3 1, .nilslice, .str 0 0, .int 3 0] false)
 have w2 := w1.new (.cells [.int 3 k, .int 3 1, .nilslice, .str 0 0, .int 3 0] false)
 have hB2 := hB.quiet (b1.trans b2)
 have hcc := hB2.hpc
 simp only [hpC] at hcc
 simp only [go_sem] at hcc
 simp only [go_sem, cf48, g1, g2, g3, hcc]
 refine (take_new h99 h130 hB2 hf hn).use ?_
 rintro r M3 hw3 ⟨rfl, hB3, b3⟩
 have hc3 := hB3.hpc
 simp only [hpC] at hc3
 obtain ⟨es, c, m1, m2⟩ := hB3.mpc
 obtain ⟨es', fr, p1, p2⟩ := m2.put (goodInt 3) (a := .int 3 (takeN G)) (v := .ptr M.next.succ 0) ⟨_, rfl⟩ c
 have hno : ∀ q : Pos, M.next.num ≤ q.num → own q = none := fun q hq => by
  cases h : own q with
  | none => rfl
  | some s => have := hB.inn q (by rw [h]; simp); omega
 have n2 : M.next.succ.num = M.next.num + 1 := Pos.num_succ _
 have o1 := hno M.next (Nat.le_refl _)
 have o2 := hno M.next.succ (by omega)
 have e1 : M3.get M.next = some (.cells [.int 3 0, .int 3 0] false) := b3.get _ _ (by rw [o1]; simp) (by simp only [go_sem])
 have e2 : M3.get M.next.succ = some (.cells [.int 3 k, .int 3 1, .nilslice, .str 0 0, .int 3 0] false) := b3.get _ _ (by rw [o2]; simp) (by simp only [go_sem])
 obtain ⟨es0, c0, z1, _⟩ := hB.mpc
 have ne := hw.ne' z1
 have eN : takeN G = G.next := by simp [takeN, hf]
 simp only [go_sem, hc3, m1, p1, e1, ne]
 have hadd := hB3.addObj (q := M.next.succ) (n := takeN G) (o := ⟨k, 1, [], 0, 0, 0⟩) (c' := if fr = true then c + 1 else c) o2 (by have := b3.next; have e : ((M.new (.cells [.int 3 0, .int 3 0] false)).new (.cells [.int 3 k, .int 3 1, .nilslice, .str 0 0, .int 3 0] false)).next.num = M.next.succ.succ.num := rfl; rw [Pos.num_succ] at e; omega) e2 rfl (p2.congr (objF_add _ _ _ _ _))
 rw [eN] at hadd ⊢
 have bq : But (fun p => ¬ P p) M (M3.put Y.mp (.map es' (if fr = true then c + 1 else c))) := (((b1.trans b2).any _).trans (b3.mono fun p h => by
  cases ho : own p with
  | none => exact absurd ho h
  | some s => exact HeapIs.not hP ho)).trans (But.put (p := Y.mp) _ (HeapIs.not hP hB.mpo) _)
 have hPn : ∀ p, P p → (own.with M.next.succ (4, G.next)) p = none ∧ p.num < M3.next.num := fun p hp => ⟨by
  unfold Own.with
  rw [if_neg (fun e => by have := (hP p hp).2; rw [e] at this; omega)]; exact (hP p hp).1, Nat.lt_of_lt_of_le (hP p hp).2 (Nat.le_trans (b1.trans b2).next b3.next)⟩
 refine ⟨rfl, ⟨own.with M.next.succ (4, G.next), { Y with ob := upd Y.ob G.next M.next.succ, sv := upd Y.sv G.next .nilslice }, rfl, hPn, hadd.keep (But.put (p := M.next) _ ?_ _)⟩, bq.trans (But.put (p := M.next) _ (fun e => ?_) _)⟩
 ·unfold Own.with
  rw [if_neg (fun e => by have := congrArg Pos.num e; omega)]; exact o1
 ·have := (hP _ e).2; omega
end Go.Proofs.Ythpnhdopheofcaa
end
section
namespace Go.Proofs.Ythpnhdopheofcaa
open Go.Dx
variable {tbl : Nat → Option CFunc}
theorem poolnew_spec (h : tbl 84 = some cf84) {M : Mem} : CallW tbl 84 .nil M fun r M' => r = .ret (.ptr M.next.succ 0) ∧ M' = (M.new (.map .nil 0)).new (.cells [.map M.next, .nilslice, .int 3 1] false) := by
 refine CallW.intro h rfl (fr := .leaf) rfl ?_
 simp only [go_sem, cf84]
def G0 : Hp := ⟨fun _ => none, fun _ => false, [], 1, [], [], [], 0⟩
theorem heapnew_spec (h : tbl 40 = some cf40) (h84 : tbl 84 = some cf84) {M : Mem} {P : Pos → Prop} (hP : ∀ p, P p → p.num < M.next.num) :
  CallW tbl 40 .nil M fun r M' => ∃ hp, r = .ret (.ptr hp 0) ∧ HeapIs M' hp P G0 ∧ But (fun _ => False) M M' ∧ M.next.num ≤ hp.num := by
 refine CallW.wf fun hw => ?_
 refine CallW.intro h rfl (fr := .leaf) rfl ?_
 simp only [go_sem, cf40]
 refine (poolnew_spec h84).use ?_
 rintro r M1 hw1 ⟨rfl, rfl⟩
 simp only [go_sem]
 have w1 := hw.new (.map .nil 0)
 have w2 := w1.new (.cells [.map M.next, .nilslice, .int 3 1] false)
 have w3 := w2.new (.map .nil 0)
 have b1 := But.new (S := fun _ => False) hw (.map .nil 0)
 have b2 := But.new (S := fun _ => False) w1 (.cells [.map M.next, .nilslice, .int 3 1] false)
 have b3 := But.new (S := fun _ => False) w2 (.map .nil 0)
 have b4 := But.new (S := fun _ => False) w3 (.cells [.ptr M.next.succ 0, .map M.next.succ.succ, .nilslice, .nilslice, .nilslice, .int 3 0, .func (.func 85) .nil .nil, .bool false] false)
 have n1 : M.next.succ.num = M.next.num + 1 := Pos.num_succ _
 have n2 : M.next.succ.succ.num = M.next.num + 2 := by rw [Pos.num_succ, n1]
 have n3 : M.next.succ.succ.succ.num = M.next.num + 3 := by rw [Pos.num_succ, n2]
 have n4 : M.next.succ.succ.succ.succ.num = M.next.num + 4 := by rw [Pos.num_succ, n3]
 have ne : ∀ {p q : Pos}, p.num ≠ q.num → p ≠ q := fun h e => h (congrArg Pos.num e)
 refine ⟨M.next.succ.succ.succ, rfl, ⟨Own.with (Own.with (Own.with (Own.with (fun _ => none) M.next (2, 0)) M.next.succ (1, 0)) M.next.succ.succ (3, 0)) M.next.succ.succ.succ (0, 0), ⟨M.next.succ.succ.succ, M.next.succ, M.next, M.next.succ.succ, fun _ => .h, fun _ => .nilslice, .nilslice, .nilslice, .nilslice, .nilslice⟩, rfl, fun p hp => ?_, ?_⟩, ((b1.trans b2).trans b3).trans b4, by omega⟩
 ·have hlt := hP p hp
  refine ⟨?_, ?_⟩
  ·unfold Own.with
   rw [if_neg (ne (by omega)), if_neg (ne (by omega)), if_neg (ne (by omega)), if_neg (ne (by omega))]
  ·show p.num < M.next.succ.succ.succ.succ.num; omega
 ·refine ⟨fun p hp => ?_, by simp [Own.with], by simp [Mem.new, hpC, G0], ?_, ?_, ?_, ?_, ?_, ?_, fun n o h => by simp [G0] at h, SlO.nil _ _ _ _, SlO.nil _ _ _ _, SlO.nil _ _ _ _, SlO.nil _ _ _ _⟩
  ·show p.num < M.next.succ.succ.succ.succ.num
   unfold Own.with at hp
   split at hp
   ·rename_i e; rw [e]; omega
   ·split at hp
    ·rename_i e; rw [e]; omega
    ·split at hp
     ·rename_i e; rw [e]; omega
     ·split at hp
      ·rename_i e; rw [e]; omega
      ·exact absurd rfl hp
  ·unfold Own.with; rw [if_neg (ne (by show M.next.succ.num ≠ _; omega)), if_neg (ne (by show M.next.succ.num ≠ _; omega)), if_pos rfl]
  ·have a1 := ne (p := M.next.succ) (q := M.next.succ.succ.succ) (by omega)
   have a2 := ne (p := M.next.succ) (q := M.next.succ.succ) (by omega)
   simp [Mem.new, ppC, G0, a1, a2]
  ·unfold Own.with; rw [if_neg (ne (by show M.next.num ≠ _; omega)), if_neg (ne (by show M.next.num ≠ _; omega)), if_neg (ne (by show M.next.num ≠ _; omega)), if_pos rfl]
  ·have a1 := ne (p := M.next) (q := M.next.succ.succ.succ) (by omega)
   have a2 := ne (p := M.next) (q := M.next.succ.succ) (by omega)
   have a3 := ne (p := M.next) (q := M.next.succ) (by omega)
   exact ⟨.nil, 0, by simp [Mem.new, a1, a2, a3], ⟨MapIs.nil.congr fun a ha => by obtain ⟨m, rfl⟩ := ha; simp [takenF, G0], rfl⟩⟩
  ·unfold Own.with; rw [if_neg (ne (by show M.next.succ.succ.num ≠ _; omega)), if_pos rfl]
  ·have a1 := ne (p := M.next.succ.succ) (q := M.next.succ.succ.succ) (by omega)
   exact ⟨.nil, 0, by simp [Mem.new, a1], MapIs.nil.congr fun a ha => by obtain ⟨m, rfl⟩ := ha; simp [objF, G0]⟩
end Go.Proofs.Ythpnhdopheofcaa
end
