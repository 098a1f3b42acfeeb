/-
  The twin for the kernel, fourth part: operations, the rest.
-/
import Derived.Test.YtnlbchnlbpaflaaGreatDoorDxKc
set_option linter.unusedSimpArgs false
set_option linter.unusedVariables false
set_option linter.unusedSectionVars false
namespace Go.Dx.K
open Go.Dx

noncomputable section
section
variable {tbl : Nat → Option CFunc} {x y z : Opd} {gx gy gz : OG}

/-- A function of the program's. -/
def onFn (f : Nat → Tri) (g : Fn) : Tri := Fn.rec (motive := fun _ => Tri) f (fun _ => .no) (fun _ _ => .no) (fun _ _ _ _ => .no) (fun _ => .no) g
theorem onFn_yes {f : Nat → Tri} {g : Fn} (h : onFn f g = .yes) : ∃ n, g = .func n ∧ f n = .yes := by
  cases g <;> first | exact ⟨_, rfl, h⟩ | cases h

def nilChk (k : Tri) (v : AV) : Tri :=
  AV.rec (motive := fun _ => Tri) (fun _ => .no) (fun _ _ => .no) (fun _ _ => .no) (fun _ _ => k) .no (fun _ _ _ _ => .no) (fun _ _ _ _ => .no) .no (fun _ => .no) .no (fun g _ _ _ _ => onFn (fun _ => k) g) .no (fun _ _ _ => k) .no (fun _ _ => .no) (fun _ _ => .no) .no (fun _ _ _ _ => .no) (fun _ => .no) v
def opNilCheck (gx : OG) : OpF := fun _ e f kv _ nx t => gx (fun v => nilChk (kv v nx t) v) e f
theorem good_nilCheck (hx : OGood x gx) : OpGood tbl (.nilCheck x) (opNilCheck gx) := by
  refine .ev (fun _ _ _ _ _ => by simp only [CI.run]; cases CI.ev _ _ _ _ <;> rfl) fun call env F0 fr kv kp nx t hF h => ?_
  obtain ⟨v, h1, h2⟩ := hx.of hF rfl h
  cases v with
  | ptr p o => exact ⟨.ptr p o, ⟨nx, t⟩, by simp [CI.ev, h2], h1⟩
  | iface u v => exact ⟨.iface u v, ⟨nx, t⟩, by simp [CI.ev, h2], h1⟩
  | func g a b =>
    obtain ⟨n, rfl, h3⟩ := onFn_yes h1
    exact ⟨.func (.func n) a b, ⟨nx, t⟩, by simp [CI.ev, h2], h3⟩
  | _ => cases h1

/-! Numbers. -/
theorem wrap_id (k : IntKind) {x : Int} (h0 : 0 ≤ x) (h1 : x < 2 ^ (k.bits - 1)) : k.wrap x = x := by
  have h2 : x % (2 ^ k.bits : Int) = x := Int.emod_eq_of_lt h0 (by cases k <;> simp only [IntKind.bits] at * <;> omega)
  simp only [IntKind.wrap, h2]
  rw [if_neg]
  simp only [Bool.and_eq_true, decide_eq_true_eq, not_and]
  intro _
  omega
theorem wrap64 {n : Nat} (h : n < 9223372036854775808) : IntKind.i64.wrap (Int.ofNat n) = Int.ofNat n :=
  wrap_id _ (by simp) (by simp only [IntKind.bits, Int.ofNat_eq_natCast]; omega)

def addK (a b : Int) (kv : KV) (nx : Pos) (t : Tr AO) : Tri :=
  Int.rec (motive := fun _ => Tri) (fun m => Int.rec (motive := fun _ => Tri) (fun n => fN (fun s => Bool.rec (motive := fun _ => Tri) (slowV kv nx t (arithI .add 3 a b)) (kv (.int 3 (Int.ofNat s)) nx t) (Nat.blt s 9223372036854775808)) (Nat.add m n)) (fun _ => slowV kv nx t (arithI .add 3 a b)) b) (fun _ => slowV kv nx t (arithI .add 3 a b)) a
theorem addK_yes {a b : Int} {kv : KV} {nx : Pos} {t : Tr AO} (h : addK a b kv nx t = .yes) : ∃ v, arithI .add 3 a b = some v ∧ kv v nx t = .yes := by
  cases a with
  | ofNat m =>
    cases b with
    | ofNat n =>
      have h : fN (fun s => Bool.rec (motive := fun _ => Tri) (slowV kv nx t (arithI .add 3 (.ofNat m) (.ofNat n))) (kv (.int 3 (Int.ofNat s)) nx t) (Nat.blt s 9223372036854775808)) (Nat.add m n) = .yes := h
      rw [fN_eq] at h
      cases hb : Nat.blt (Nat.add m n) 9223372036854775808 with
      | false => rw [hb] at h; exact slowV_yes h
      | true =>
        rw [hb] at h
        have hlt : m + n < 9223372036854775808 := by simpa using hb
        refine ⟨.int 3 (Int.ofNat (m + n)), ?_, h⟩
        show some (AV.int 3 (IntKind.i64.wrap (Int.ofNat m + Int.ofNat n))) = _
        rw [show Int.ofNat m + Int.ofNat n = Int.ofNat (m + n) from rfl, wrap64 hlt]
    | negSucc n => exact slowV_yes h
  | negSucc m => exact slowV_yes h
def subK (a b : Int) (kv : KV) (nx : Pos) (t : Tr AO) : Tri :=
  Int.rec (motive := fun _ => Tri) (fun m => Int.rec (motive := fun _ => Tri) (fun n => Bool.rec (motive := fun _ => Tri) (slowV kv nx t (arithI .sub 3 a b)) (fN (fun s => kv (.int 3 (Int.ofNat s)) nx t) (Nat.sub m n)) (andB (Nat.ble n m) (Nat.blt m 9223372036854775808))) (fun _ => slowV kv nx t (arithI .sub 3 a b)) b) (fun _ => slowV kv nx t (arithI .sub 3 a b)) a
theorem subK_yes {a b : Int} {kv : KV} {nx : Pos} {t : Tr AO} (h : subK a b kv nx t = .yes) : ∃ v, arithI .sub 3 a b = some v ∧ kv v nx t = .yes := by
  cases a with
  | ofNat m =>
    cases b with
    | ofNat n =>
      have h : Bool.rec (motive := fun _ => Tri) (slowV kv nx t (arithI .sub 3 (.ofNat m) (.ofNat n))) (fN (fun s => kv (.int 3 (Int.ofNat s)) nx t) (Nat.sub m n)) (andB (Nat.ble n m) (Nat.blt m 9223372036854775808)) = .yes := h
      cases hb : andB (Nat.ble n m) (Nat.blt m 9223372036854775808) with
      | false => rw [hb] at h; exact slowV_yes h
      | true =>
        rw [hb] at h
        have h : fN (fun s => kv (.int 3 (Int.ofNat s)) nx t) (Nat.sub m n) = .yes := h
        rw [fN_eq] at h
        rw [andB_eq, Bool.and_eq_true] at hb
        have h1 : n ≤ m := by simpa using hb.1
        have h2 : m < 9223372036854775808 := by simpa using hb.2
        refine ⟨.int 3 (Int.ofNat (m - n)), ?_, h⟩
        show some (AV.int 3 (IntKind.i64.wrap (Int.ofNat m - Int.ofNat n))) = _
        rw [show Int.ofNat m - Int.ofNat n = Int.ofNat (m - n) by simp only [Int.ofNat_eq_natCast]; omega, wrap64 (by omega)]
    | negSucc n => exact slowV_yes h
  | negSucc m => exact slowV_yes h

def opArith (op : BinOp) (c : Nat) (gx gy : OG) : OpF := fun _ e f kv _ nx t => gx (onInt fun j a => gy (onInt fun k b => ifB (andB (Nat.beq j c) (Nat.beq k c)) (slowV kv nx t (arithI op c a b)) .no) e f) e f
theorem good_arith (op : BinOp) (c : Nat) (hx : OGood x gx) (hy : OGood y gy) : OpGood tbl (.arith op c x y) (opArith op c gx gy) := by
  refine .ev (fun _ _ _ _ _ => by simp only [CI.run]; cases CI.ev _ _ _ _ <;> rfl) fun call env F0 fr kv kp nx t hF h => ?_
  obtain ⟨j, a, h1, h2⟩ := hx.int hF h
  obtain ⟨k, b, h3, h4⟩ := hy.int hF h1
  obtain ⟨h5, h6⟩ := ifB_yes h3
  rw [andB_eq, Bool.and_eq_true] at h5
  obtain ⟨v, h7, h8⟩ := slowV_yes h6
  have e1 := Nat.eq_of_beq_eq_true h5.1
  have e2 := Nat.eq_of_beq_eq_true h5.2
  exact ⟨v, ⟨nx, t⟩, by simp [CI.ev, h2, h4, asInt, e1, e2, h7], h8⟩
def opAdd (gx gy : OG) : OpF := fun _ e f kv _ nx t => gx (onInt fun j a => gy (onInt fun k b => ifB (andB (Nat.beq j 3) (Nat.beq k 3)) (addK a b kv nx t) .no) e f) e f
theorem good_add (hx : OGood x gx) (hy : OGood y gy) : OpGood tbl (.arith .add 3 x y) (opAdd gx gy) := by
  refine .ev (fun _ _ _ _ _ => by simp only [CI.run]; cases CI.ev _ _ _ _ <;> rfl) fun call env F0 fr kv kp nx t hF h => ?_
  obtain ⟨j, a, h1, h2⟩ := hx.int hF h
  obtain ⟨k, b, h3, h4⟩ := hy.int hF h1
  obtain ⟨h5, h6⟩ := ifB_yes h3
  rw [andB_eq, Bool.and_eq_true] at h5
  obtain ⟨v, h7, h8⟩ := addK_yes h6
  have e1 := Nat.eq_of_beq_eq_true h5.1
  have e2 := Nat.eq_of_beq_eq_true h5.2
  exact ⟨v, ⟨nx, t⟩, by simp [CI.ev, h2, h4, asInt, e1, e2, h7], h8⟩
def opSub (gx gy : OG) : OpF := fun _ e f kv _ nx t => gx (onInt fun j a => gy (onInt fun k b => ifB (andB (Nat.beq j 3) (Nat.beq k 3)) (subK a b kv nx t) .no) e f) e f
theorem good_sub (hx : OGood x gx) (hy : OGood y gy) : OpGood tbl (.arith .sub 3 x y) (opSub gx gy) := by
  refine .ev (fun _ _ _ _ _ => by simp only [CI.run]; cases CI.ev _ _ _ _ <;> rfl) fun call env F0 fr kv kp nx t hF h => ?_
  obtain ⟨j, a, h1, h2⟩ := hx.int hF h
  obtain ⟨k, b, h3, h4⟩ := hy.int hF h1
  obtain ⟨h5, h6⟩ := ifB_yes h3
  rw [andB_eq, Bool.and_eq_true] at h5
  obtain ⟨v, h7, h8⟩ := subK_yes h6
  have e1 := Nat.eq_of_beq_eq_true h5.1
  have e2 := Nat.eq_of_beq_eq_true h5.2
  exact ⟨v, ⟨nx, t⟩, by simp [CI.ev, h2, h4, asInt, e1, e2, h7], h8⟩
def isAdd (op : BinOp) : Bool := match op with | .add => true | _ => false
def isSub (op : BinOp) : Bool := match op with | .sub => true | _ => false
def dArith (op : BinOp) (c : Nat) (gx gy : OG) : OpF :=
  Bool.rec (motive := fun _ => OpF) (Bool.rec (motive := fun _ => OpF) (opArith op c gx gy) (opSub gx gy) (andB (isSub op) (Nat.beq c 3))) (opAdd gx gy) (andB (isAdd op) (Nat.beq c 3))
theorem good_dArith (op : BinOp) (c : Nat) (hx : OGood x gx) (hy : OGood y gy) : OpGood tbl (.arith op c x y) (dArith op c gx gy) := by
  unfold dArith
  cases h1 : andB (isAdd op) (Nat.beq c 3) with
  | true =>
    rw [andB_eq, Bool.and_eq_true] at h1
    have e1 := Nat.eq_of_beq_eq_true h1.2
    have e2 : op = .add := by have := h1.1; cases op <;> first | rfl | cases this
    subst e1 e2
    exact good_add hx hy
  | false =>
    cases h2 : andB (isSub op) (Nat.beq c 3) with
    | true =>
      rw [andB_eq, Bool.and_eq_true] at h2
      have e1 := Nat.eq_of_beq_eq_true h2.2
      have e2 : op = .sub := by have := h2.1; cases op <;> first | rfl | cases this
      subst e1 e2
      exact good_sub hx hy
    | false => exact good_arith op c hx hy

def opShift (op : BinOp) (c : Nat) (gx gy : OG) : OpF := fun _ e f kv _ nx t => gx (onInt fun j a => gy (onInt fun _ b => ifB (Nat.beq j c) (slowV kv nx t (shiftI op c a b)) .no) e f) e f
theorem good_shift (op : BinOp) (c : Nat) (hx : OGood x gx) (hy : OGood y gy) : OpGood tbl (.shift op c x y) (opShift op c gx gy) := by
  refine .ev (fun _ _ _ _ _ => by simp only [CI.run]; cases CI.ev _ _ _ _ <;> rfl) fun call env F0 fr kv kp nx t hF h => ?_
  obtain ⟨j, a, h1, h2⟩ := hx.int hF h
  obtain ⟨k, b, h3, h4⟩ := hy.int hF h1
  obtain ⟨h5, h6⟩ := ifB_yes h3
  obtain ⟨v, h7, h8⟩ := slowV_yes h6
  have e1 := Nat.eq_of_beq_eq_true h5
  exact ⟨v, ⟨nx, t⟩, by simp [CI.ev, h2, h4, asInt, e1, h7], h8⟩

def ltI (a b : Int) : Bool := notB (leI b a)
theorem ltI_eq (a b : Int) : ltI a b = decide (a < b) := by unfold ltI; rw [notB_eq, leI_eq]; by_cases h : b ≤ a <;> simp [h] <;> omega
def opCmp (r : Int → Int → Bool) (gx gy : OG) : OpF := fun _ e f kv _ nx t => gx (onInt fun j a => gy (onInt fun k b => ifB (Nat.beq j k) (fB (fun q => kv (.bool q) nx t) (r a b)) .no) e f) e f
def dCmp (op : BinOp) (gx gy : OG) : OpF := match op with
  | .eql => opCmp eqI gx gy
  | .neq => opCmp (fun a b => notB (eqI a b)) gx gy
  | .lss => opCmp ltI gx gy
  | .leq => opCmp leI gx gy
  | .gtr => opCmp (fun a b => ltI b a) gx gy
  | .geq => opCmp (fun a b => leI b a) gx gy
  | _ => opNo
theorem good_cmp {op : BinOp} {r : Int → Int → Bool} (hr : ∀ a b, cmpI op a b = some (r a b)) (hx : OGood x gx) (hy : OGood y gy) : OpGood tbl (.cmp op x y) (opCmp r gx gy) := by
  refine .ev (fun _ _ _ _ _ => by simp only [CI.run]; cases CI.ev _ _ _ _ <;> rfl) fun call env F0 fr kv kp nx t hF h => ?_
  obtain ⟨j, a, h1, h2⟩ := hx.int hF h
  obtain ⟨k, b, h3, h4⟩ := hy.int hF h1
  obtain ⟨h5, h6⟩ := ifB_yes h3
  rw [fB_eq] at h6
  have e1 := Nat.eq_of_beq_eq_true h5
  exact ⟨.bool (r a b), ⟨nx, t⟩, by simp [CI.ev, h2, h4, asInt, e1, hr], h6⟩
theorem good_dCmp (op : BinOp) (hx : OGood x gx) (hy : OGood y gy) : OpGood tbl (.cmp op x y) (dCmp op gx gy) := by
  unfold dCmp
  split
  · exact good_cmp (fun a b => by simp [cmpI, eqI_eq]) hx hy
  · exact good_cmp (fun a b => by simp [cmpI, eqI_eq, notB_eq, bne]) hx hy
  · exact good_cmp (fun a b => by simp [cmpI, ltI_eq]) hx hy
  · exact good_cmp (fun a b => by simp [cmpI, leI_eq]) hx hy
  · exact good_cmp (fun a b => by simp [cmpI, ltI_eq]) hx hy
  · exact good_cmp (fun a b => by simp [cmpI, leI_eq]) hx hy
  · exact good_no

/-! Texts. -/
def opCat (gx gy : OG) : OpF := fun _ e f kv _ nx t => gx (onStr fun l n => gy (onStr fun k m => fN (fun s => ifB (Nat.ble s most) (fN (fun q => kv (.str s q) nx t) (Nat.add n (Nat.mul m (Nat.pow 256 l)))) .no) (Nat.add l k)) e f) e f
theorem good_cat (hx : OGood x gx) (hy : OGood y gy) : OpGood tbl (.cat x y) (opCat gx gy) := by
  refine .ev (fun _ _ _ _ _ => by simp only [CI.run]; cases CI.ev _ _ _ _ <;> rfl) fun call env F0 fr kv kp nx t hF h => ?_
  obtain ⟨l, n, h1, h2⟩ := hx.str hF h
  obtain ⟨k, m, h3, h4⟩ := hy.str hF h1
  rw [fN_eq] at h3
  obtain ⟨h5, h6⟩ := ifB_yes h3
  rw [fN_eq] at h6
  have h5 : l + k ≤ most := by simpa using h5
  exact ⟨.str (l + k) (n + m * 256 ^ l), ⟨nx, t⟩, by simp [CI.ev, h2, h4, h5], h6⟩
def opScmp (op : BinOp) (gx gy : OG) : OpF := fun _ e f kv _ nx t => gx (onStr fun l n => gy (onStr fun k m => oT (fun b => fB (fun b => kv (.bool b) nx t) b) (cmpS op l n k m)) e f) e f
theorem good_scmp (op : BinOp) (hx : OGood x gx) (hy : OGood y gy) : OpGood tbl (.scmp op x y) (opScmp op gx gy) := by
  refine .ev (fun _ _ _ _ _ => by simp only [CI.run]; cases CI.ev _ _ _ _ <;> rfl) fun call env F0 fr kv kp nx t hF h => ?_
  obtain ⟨l, n, h1, h2⟩ := hx.str hF h
  obtain ⟨k, m, h3, h4⟩ := hy.str hF h1
  obtain ⟨b, h5, h6⟩ := oT_yes h3
  rw [fB_eq] at h6
  exact ⟨.bool b, ⟨nx, t⟩, by simp [CI.ev, h2, h4, h5], h6⟩
def opSeq (ne : Bool) (gx gy : OG) : OpF := fun _ e f kv _ nx t => gx (onStr fun l n => gy (onStr fun k m => ifB (andB (Nat.beq l k) (Nat.beq n m)) (kv (.bool (notB ne)) nx t) (kv (.bool ne) nx t)) e f) e f
theorem good_seq (op : BinOp) (ne : Bool) (ho : ∀ l n k m, cmpS op l n k m = some ((l == k && n == m) != ne)) (hx : OGood x gx) (hy : OGood y gy) : OpGood tbl (.scmp op x y) (opSeq ne gx gy) := by
  refine .ev (fun _ _ _ _ _ => by simp only [CI.run]; cases CI.ev _ _ _ _ <;> rfl) fun call env F0 fr kv kp nx t hF h => ?_
  obtain ⟨l, n, h1, h2⟩ := hx.str hF h
  obtain ⟨k, m, h3, h4⟩ := hy.str hF h1
  rw [ifB_eq, andB_eq, show Nat.beq l k = (l == k) from Bool.eq_iff_iff.2 (by simp), show Nat.beq n m = (n == m) from Bool.eq_iff_iff.2 (by simp)] at h3
  refine ⟨.bool ((l == k && n == m) != ne), ⟨nx, t⟩, by simp [CI.ev, h2, h4, ho], ?_⟩
  split at h3
  · rename_i h; rw [h]; rw [notB_eq] at h3; simpa using h3
  · rename_i h; rw [Bool.not_eq_true] at h; rw [h]; simpa using h3
def dScmp (op : BinOp) (gx gy : OG) : OpF := match op with
  | .eql => opSeq false gx gy
  | .neq => opSeq true gx gy
  | op => opScmp op gx gy
theorem good_dScmp (op : BinOp) (hx : OGood x gx) (hy : OGood y gy) : OpGood tbl (.scmp op x y) (dScmp op gx gy) := by
  unfold dScmp
  split
  · exact good_seq _ _ (fun l n k m => by simp [cmpS]) hx hy
  · exact good_seq _ _ (fun l n k m => by simp [cmpS]) hx hy
  · exact good_scmp _ hx hy

def opEq (e : EK) (ne : Bool) (gx gy : OG) : OpF := fun _ en f kv _ nx t => gx (fun a => gy (fun b => eqAK e t a b (kv (.bool (notB ne)) nx t) (kv (.bool ne) nx t)) en f) en f
theorem eqAK_nil {e : EK} {t : Tr AO} {b : AV} {u v : Tri} : eqAK e t .nil b u v = .no := by
  cases e with
  | leaf l => cases l <;> rfl
  | _ => rfl
theorem eqAK_nil' {e : EK} {t : Tr AO} {a : AV} {u v : Tri} : eqAK e t a .nil u v = .no := by
  cases e with
  | leaf l => cases l <;> cases a <;> rfl
  | _ => cases a <;> rfl
theorem gx_no {x : Opd} {gx : OG} (hx : OGood x gx) {env : Env} {F0 : F} {fr : Tr AV} (hF : RF F0 fr) {k : AV → Tri} (hk : ∀ v, k v = .no) : gx k env F0 = .no := by
  cases h : gx k env F0 with
  | no => rfl
  | yes => obtain ⟨v, h1, _⟩ := hx _ _ _ _ hF h; rw [hk] at h1; cases h1
theorem good_eq (e : EK) (ne : Bool) (hx : OGood x gx) (hy : OGood y gy) : OpGood tbl (.eq e ne x y) (opEq e ne gx gy) := by
  refine .ev (fun _ _ _ _ _ => by simp only [CI.run]; cases CI.ev _ _ _ _ <;> rfl) fun call env F0 fr kv kp nx t hF h => ?_
  obtain ⟨a, h1, h2⟩ := hx.of hF (gx_no hy hF fun v => eqAK_nil) h
  obtain ⟨b, h3, h4⟩ := hy.of hF eqAK_nil' h1
  rw [eqAK_eq _ nx] at h3
  obtain ⟨q, h5, h6⟩ := oT_yes h3
  refine ⟨.bool (q != ne), ⟨nx, t⟩, by simp [CI.ev, h2, h4, h5], ?_⟩
  rw [ifB_eq, notB_eq] at h6
  cases q <;> simpa using h6

def opNeg (gx : OG) : OpF := fun _ e f kv _ nx t => gx (onInt fun c a => slowV kv nx t (arithI .sub c 0 a)) e f
theorem good_neg (hx : OGood x gx) : OpGood tbl (.neg x) (opNeg gx) := by
  refine .ev (fun _ _ _ _ _ => by simp only [CI.run]; cases CI.ev _ _ _ _ <;> rfl) fun call env F0 fr kv kp nx t hF h => ?_
  obtain ⟨c, a, h1, h2⟩ := hx.int hF h
  obtain ⟨v, h3, h4⟩ := slowV_yes h1
  exact ⟨v, ⟨nx, t⟩, by simp [CI.ev, h2, asInt, h3], h4⟩
def opCompl (gx : OG) : OpF := fun _ e f kv _ nx t => gx (onInt fun c a => slowV kv nx t (arithI .xor c (if (kindOf c).signed then -1 else (kindOf c).max) a)) e f
theorem good_compl (hx : OGood x gx) : OpGood tbl (.compl x) (opCompl gx) := by
  refine .ev (fun _ _ _ _ _ => by simp only [CI.run]; cases CI.ev _ _ _ _ <;> rfl) fun call env F0 fr kv kp nx t hF h => ?_
  obtain ⟨c, a, h1, h2⟩ := hx.int hF h
  obtain ⟨v, h3, h4⟩ := slowV_yes h1
  exact ⟨v, ⟨nx, t⟩, by simp only [CI.ev, h2, asInt, Option.bind_eq_bind, Option.bind_some, h3], h4⟩
def opNot (gx : OG) : OpF := fun _ e f kv _ nx t => gx (onBool fun b => Bool.rec (motive := fun _ => Tri) (kv (.bool true) nx t) (kv (.bool false) nx t) b) e f
theorem good_not (hx : OGood x gx) : OpGood tbl (.not x) (opNot gx) := by
  refine .ev (fun _ _ _ _ _ => by simp only [CI.run]; cases CI.ev _ _ _ _ <;> rfl) fun call env F0 fr kv kp nx t hF h => ?_
  obtain ⟨b, h1, h2⟩ := hx.bool hF h
  refine ⟨.bool !b, ⟨nx, t⟩, by simp [CI.ev, h2, asBool], ?_⟩
  cases b <;> exact h1

theorem wrapSmall {c n : Nat} (h : n < 128) : (kindOf c).wrap (Int.ofNat n) = Int.ofNat n :=
  wrap_id _ (by simp) (by cases kindOf c <;> simp only [IntKind.bits, Int.ofNat_eq_natCast] <;> omega)
def opConv (c : Nat) (gx : OG) : OpF := fun _ e f kv _ nx t => gx (onInt fun _ a => Int.rec (motive := fun _ => Tri) (fun n => Bool.rec (motive := fun _ => Tri) (slowV kv nx t (some (.int c ((kindOf c).wrap a)))) (kv (.int c a) nx t) (Nat.blt n (Nat.rec (motive := fun _ => Nat) 128 (fun _ _ => 9223372036854775808) (Nat.sub (Nat.mul (Nat.sub 4 c) (Nat.sub c 2)) 0)))) (fun _ => slowV kv nx t (some (.int c ((kindOf c).wrap a)))) a) e f
theorem conv_lim (c : Nat) : c = 3 ∨ (4 - c) * (c - 2) = 0 := by
  by_cases h : c = 3
  · exact .inl h
  · refine .inr (Nat.mul_eq_zero.2 ?_)
    omega
theorem good_conv (c : Nat) (hx : OGood x gx) : OpGood tbl (.convInt c x) (opConv c gx) := by
  refine .ev (fun _ _ _ _ _ => by simp only [CI.run]; cases CI.ev _ _ _ _ <;> rfl) fun call env F0 fr kv kp nx t hF h => ?_
  obtain ⟨d, a, h1, h2⟩ := hx.int hF h
  have slow : slowV kv nx t (some (.int c ((kindOf c).wrap a))) = .yes → ∃ v H', (CI.convInt c x).ev env.toAV fr ⟨nx, t⟩ = some (v, H') ∧ kv v H'.next H'.t = .yes := by
    intro hs
    obtain ⟨v, h3, h4⟩ := slowV_yes hs
    cases h3
    exact ⟨_, ⟨nx, t⟩, by simp only [CI.ev, h2, asInt, Option.bind_eq_bind, Option.bind_some], h4⟩
  cases a with
  | negSucc n => exact slow h1
  | ofNat n =>
    have h1 : Bool.rec (motive := fun _ => Tri) (slowV kv nx t (some (.int c ((kindOf c).wrap (.ofNat n))))) (kv (.int c (.ofNat n)) nx t) (Nat.blt n (Nat.rec (motive := fun _ => Nat) 128 (fun _ _ => 9223372036854775808) (Nat.sub (Nat.mul (Nat.sub 4 c) (Nat.sub c 2)) 0))) = .yes := h1
    cases hb : Nat.blt n (Nat.rec (motive := fun _ => Nat) 128 (fun _ _ => 9223372036854775808) (Nat.sub (Nat.mul (Nat.sub 4 c) (Nat.sub c 2)) 0)) with
    | false => rw [hb] at h1; exact slow h1
    | true =>
      rw [hb] at h1
      have hw : (kindOf c).wrap (Int.ofNat n) = Int.ofNat n := by
        rcases conv_lim c with rfl | hc
        · refine wrap64 ?_
          have hb : Nat.blt n 9223372036854775808 = true := hb
          simpa using hb
        · refine wrapSmall ?_
          have hc' : Nat.sub (Nat.mul (Nat.sub 4 c) (Nat.sub c 2)) 0 = 0 := hc
          rw [hc'] at hb
          have hb : Nat.blt n 128 = true := hb
          simpa using hb
      exact ⟨_, ⟨nx, t⟩, by simp only [CI.ev, h2, asInt, Option.bind_eq_bind, Option.bind_some, hw], h1⟩

def opSame (gx : OG) : OpF := fun _ e f kv _ nx t => gx (onStr fun l n => kv (.str l n) nx t) e f
theorem good_same (hx : OGood x gx) : OpGood tbl (.same x) (opSame gx) := by
  refine .ev (fun _ _ _ _ _ => by simp only [CI.run]; cases CI.ev _ _ _ _ <;> rfl) fun call env F0 fr kv kp nx t hF h => ?_
  obtain ⟨l, n, h1, h2⟩ := hx.str hF h
  exact ⟨_, ⟨nx, t⟩, by simp [CI.ev, h2], h1⟩
def opToBytes (gx : OG) : OpF := fun _ e f kv _ nx t => gx (onStr fun l n => bytesK l n (fun cs => rowK cs true (fun p => kv (.oslice p 0 l 1)) nx t)) e f
theorem good_toBytes (hx : OGood x gx) : OpGood tbl (.toBytes x) (opToBytes gx) := by
  refine .ev (fun _ _ _ _ _ => by simp only [CI.run]; cases CI.ev _ _ _ _ <;> rfl) fun call env F0 fr kv kp nx t hF h => ?_
  obtain ⟨l, n, h1, h2⟩ := hx.str hF h
  rw [bytesK_eq, rowK_eq] at h1
  obtain ⟨⟨p, H'⟩, h3, h4⟩ := oT_yes h1
  exact ⟨_, H', by simp [CI.ev, h2, h3], h4⟩
/-- A slice's length. -/
def lenK (k : Nat → Tri) (v : AV) : Tri := onSl (k 0) (fun _ _ n _ => k n) (fun _ _ n _ => k n) v
theorem lenK_yes {k : Nat → Tri} {v : AV} (h : lenK k v = .yes) : ∃ n, lenOf v = some n ∧ k n = .yes := by
  rcases onSl_yes h with ⟨rfl, h⟩ | ⟨p, a, b, c, rfl, h⟩ | ⟨p, a, b, c, rfl, h⟩ <;> exact ⟨_, rfl, h⟩
theorem lenK_nil {k : Nat → Tri} : lenK k .nil = .no := rfl
def opOfBytes (gx : OG) : OpF := fun _ e f kv _ nx t => gx (fun v => lenK (fun l => firstK 1 l (fun cs => numK cs (fun n => kv (.str l n) nx t)) t v) v) e f
theorem good_ofBytes (hx : OGood x gx) : OpGood tbl (.ofBytes x) (opOfBytes gx) := by
  refine .ev (fun _ _ _ _ _ => by simp only [CI.run]; cases CI.ev _ _ _ _ <;> rfl) fun call env F0 fr kv kp nx t hF h => ?_
  obtain ⟨v, h1, h2⟩ := hx.of hF rfl h
  obtain ⟨l, h3, h4⟩ := lenK_yes h1
  rw [firstK_eq _ _ _ nx] at h4
  obtain ⟨cs, h5, h6⟩ := oT_yes h4
  rw [numK_eq] at h6
  obtain ⟨n, h7, h8⟩ := oT_yes h6
  exact ⟨_, ⟨nx, t⟩, by simp [CI.ev, h2, h3, h5, h7], h8⟩

def opMkIface (u : Nat) (gx : OG) : OpF := fun _ e f kv _ nx t => gx (fun v => chk (kv (.iface u v) nx t) v) e f
theorem good_mkIface (u : Nat) (hx : OGood x gx) : OpGood tbl (.mkIface u x) (opMkIface u gx) := by
  refine .ev (fun _ _ _ _ _ => by simp only [CI.run]; cases CI.ev _ _ _ _ <;> rfl) fun call env F0 fr kv kp nx t hF h => ?_
  obtain ⟨v, _, h1, h2⟩ := hx.any hF h
  exact ⟨_, ⟨nx, t⟩, by simp [CI.ev, h2], h1⟩
def opMkFunc (fn : Fn) (ga gb : OG) : OpF := fun _ e f kv _ nx t => ga (fun a => gb (fun b => kv (.func fn a b) nx t) e f) e f
theorem good_mkFunc (fn : Fn) {xs ys : Opds} {ga gb : OG} (ha : OsGood xs ga) (hb : OsGood ys gb) : OpGood tbl (.mkFunc fn xs ys) (opMkFunc fn ga gb) := by
  refine .ev (fun _ _ _ _ _ => by simp only [CI.run]; cases CI.ev _ _ _ _ <;> rfl) fun call env F0 fr kv kp nx t hF h => ?_
  obtain ⟨a, h1, h2⟩ := ha _ _ _ _ hF h
  obtain ⟨b, h3, h4⟩ := hb _ _ _ _ hF h1
  exact ⟨_, ⟨nx, t⟩, by simp [CI.ev, h2, h4], h3⟩
def opMkMap : OpF := fun _ _ _ kv _ nx t => newK (.map .nil 0) (fun p => kv (.map p)) nx t
theorem good_mkMap : OpGood tbl .mkMap opMkMap := by
  refine .ev (fun _ _ _ _ _ => by simp only [CI.run]; cases CI.ev _ _ _ _ <;> rfl) fun call env F0 fr kv kp nx t hF h => ?_
  have h : newK (.map .nil 0) (fun p => kv (.map p)) nx t = .yes := h
  rw [newK_eq] at h
  exact ⟨_, _, rfl, h⟩
/-- So many times the same cells. -/
def replK (z : AV) (n : Nat) : (AV → Tri) → Tri := Nat.rec (motive := fun _ => (AV → Tri) → Tri) (fun k => k .nil) (fun _ ih k => ih (fun r => appK z r k)) n
theorem replK_eq (z : AV) (n : Nat) : ∀ k, replK z n k = k (repl z n) := by
  induction n with
  | zero => intro k; rfl
  | succ n ih =>
    intro k
    show replK z n (fun r => appK z r k) = _
    rw [ih, appK_eq]
    rfl
def opMakeSl (z : AV) (size : Nat) (gx gy : OG) : OpF := fun _ e f kv _ nx t => gx (onNat fun l => gy (onNat fun c => ifB (andB (Nat.ble l c) (andB (Nat.ble c most) (Nat.beq (lenR z) size))) (replK z c (fun cs => rowK cs false (fun p => kv (.slice p 0 l c)) nx t)) .no) e f) e f
theorem good_makeSl (z : AV) (size : Nat) (hx : OGood x gx) (hy : OGood y gy) : OpGood tbl (.makeSlice z size x y) (opMakeSl z size gx gy) := by
  refine .ev (fun _ _ _ _ _ => by simp only [CI.run]; cases CI.ev _ _ _ _ <;> rfl) fun call env F0 fr kv kp nx t hF h => ?_
  obtain ⟨c1, l, h1, h2⟩ := hx.nat hF h
  obtain ⟨c2, c, h3, h4⟩ := hy.nat hF h1
  obtain ⟨h5, h6⟩ := ifB_yes h3
  rw [andB_eq, andB_eq, Bool.and_eq_true, Bool.and_eq_true, lenR_eq] at h5
  have e1 : l ≤ c := by simpa using h5.1
  have e2 : c ≤ most := by simpa using h5.2.1
  have e3 := Nat.eq_of_beq_eq_true h5.2.2
  rw [replK_eq, rowK_eq] at h6
  obtain ⟨⟨p, H'⟩, h7, h8⟩ := oT_yes h6
  refine ⟨_, H', ?_, h8⟩
  simp only [CI.ev, h2, h4, Option.bind_eq_bind, Option.bind_some, asNat]
  rw [if_pos ⟨e1, e2, e3⟩]
  simp [h7]
end
end
end Go.Dx.K
