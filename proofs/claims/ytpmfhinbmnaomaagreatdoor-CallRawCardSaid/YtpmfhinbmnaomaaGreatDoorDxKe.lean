/-
  The twin for the kernel, third part: operations.
-/
import Derived.Test.YtpmfhinbmnaomaaGreatDoorDxKb
import Derived.Test.YtpmfhinbmnaomaaGreatDoorDxLe
import Derived.Test.YtpmfhinbmnaomaaGreatDoorDxKi
set_option linter.unusedSimpArgs false
set_option linter.unusedVariables false
set_option linter.unusedSectionVars false
namespace Go.Dx.K
open Go.Dx

noncomputable section

abbrev KV := AV → KH
abbrev Call := Nat → AV → KV → KV → KH
abbrev OpF := Call → Env → F → KV → KV → KH
abbrev OG := (AV → Tri) → Env → F → Tri

/-- What a call's end hands on. -/
def resK (kr kp : KV) (r : CR) (H : Heap) : Tri := match r with
  | .ret v => kr v H.next H.t
  | .pan v => kp v H.next H.t

/-- What a round is called by, at a fuel. -/
abbrev YT := Nat → Pos → AV → Heap → Option (CR × Heap)
/-- A call's number: 0 is a round (its yield stands ahead of its arguments), or a deferred call (the function and its arguments, what was thrown); f + 1 the function f. -/
structure CallGood (tbl : Nat → Option CFunc) (Y : YT) (call : Call) : Prop where
  fn : ∀ f args kr kp nx t, RInv ⟨nx, t⟩ → call (Nat.succ f) args kr kp nx t = .yes → ∃ n r H', callN tbl n f args ⟨nx, t⟩ = some (r, H') ∧ resK kr kp r H' = .yes
  yl : ∀ p args kr kp nx t, RInv ⟨nx, t⟩ → call Nat.zero (.cons (.yield p) args) kr kp nx t = .yes → ∃ n r H', Y n p args ⟨nx, t⟩ = some (r, H') ∧ resK kr kp r H' = .yes
  df : ∀ f as m kr kp nx t, RInv ⟨nx, t⟩ → call Nat.zero (.cons (.iface f as) (.cons m .nil)) kr kp nx t = .yes → ∃ n m' H', doCallD tbl (run tbl n) f as m ⟨nx, t⟩ = some (m', H') ∧ kr m' H'.next H'.t = .yes

def OpGood (tbl : Nat → Option CFunc) (ci : CI) (f : OpF) : Prop :=
  ∀ Y call, CallGood tbl Y call → ∀ env (F0 : F) fr kv kp nx t, RF F0 fr → RInv ⟨nx, t⟩ → f call env F0 kv kp nx t = .yes → ∃ n r H', CI.run (callN tbl n) (Y n) env.toAV fr ⟨nx, t⟩ ci = some (r, H') ∧ resK kv kp r H' = .yes

/-- Of an operand. -/
def OGood (x : Opd) (g : OG) : Prop := ∀ k env (F0 : F) fr, RF F0 fr → g k env F0 = .yes → ∃ v, k v = .yes ∧ (v ≠ .nil → x.ev env.toAV fr = some v)

def dOpd {β : Type} (x : Opd) (no : β) (K : OG → β) : β :=
  Opd.rec (motive := fun _ => β) (fun j => eGet j fun g => K fun k e _ => g k e) (fun p => fGet p no fun g => K fun k _ f => g k f) (fun v => K fun k _ _ => k v) x
theorem dOpd_eq {β : Type} (x : Opd) (no : β) (K : OG → β) : dOpd x no K = no ∨ ∃ g, dOpd x no K = K g ∧ OGood x g := by
  cases x with
  | loc j =>
    obtain ⟨g, h1, h2⟩ := eGet_eq j (fun g => K fun k e _ => g k e)
    refine .inr ⟨_, h1, fun k env F0 fr _ h => ?_⟩
    rw [h2] at h
    obtain ⟨v, h3, h4⟩ := oT_yes h
    exact ⟨v, h4, fun _ => h3⟩
  | var p =>
    rcases fGet_eq p no (fun g => K fun k _ f => g k f) with h | ⟨g, h1, h2⟩
    · exact .inl h
    · refine .inr ⟨_, h1, fun k env F0 fr hF h => ?_⟩
      obtain ⟨f, rfl, hf⟩ := hF
      rw [h2] at h
      exact ⟨_, h, fun hne => hf.1 p hne⟩
  | lit v => exact .inr ⟨_, rfl, fun k env F0 fr _ h => ⟨v, h, fun _ => rfl⟩⟩

/-- Of operands. -/
def OsGood (xs : Opds) (g : OG) : Prop := ∀ k env (F0 : F) fr, RF F0 fr → g k env F0 = .yes → ∃ vs, k vs = .yes ∧ xs.ev env.toAV fr = some vs
def dOpds {β : Type} (xs : Opds) (no : β) : (OG → β) → β :=
  Opds.rec (motive := fun _ => (OG → β) → β) (fun K => K fun k _ _ => k .nil) (fun x _ ih K => dOpd x no fun g => ih fun gs => K fun k e f => g (fun v => chk (gs (fun vs => k (.cons v vs)) e f) v) e f) xs
theorem dOpds_eq {β : Type} (xs : Opds) (no : β) : ∀ (K : OG → β), dOpds xs no K = no ∨ ∃ g, dOpds xs no K = K g ∧ OsGood xs g := by
  induction xs with
  | nil => intro K; exact .inr ⟨_, rfl, fun k env F0 fr _ h => ⟨.nil, h, rfl⟩⟩
  | cons x r ih =>
    intro K
    show (dOpd x no fun g => dOpds r no fun gs => K fun k e f => g (fun v => chk (gs (fun vs => k (.cons v vs)) e f) v) e f) = no ∨ ∃ g, (dOpd x no fun g => dOpds r no fun gs => K fun k e f => g (fun v => chk (gs (fun vs => k (.cons v vs)) e f) v) e f) = K g ∧ _
    rcases dOpd_eq x no (fun g => dOpds r no fun gs => K fun k e f => g (fun v => chk (gs (fun vs => k (.cons v vs)) e f) v) e f) with h | ⟨g, h, hg⟩
    · exact .inl h
    rw [h]
    rcases ih (fun gs => K fun k e f => g (fun v => chk (gs (fun vs => k (.cons v vs)) e f) v) e f) with h | ⟨gs, h, hgs⟩
    · exact .inl h
    rw [h]
    refine .inr ⟨_, rfl, fun k env F0 fr hF h => ?_⟩
    obtain ⟨v, h1, h2⟩ := hg _ _ _ _ hF h
    obtain ⟨hn, h1⟩ := chk_yes h1
    obtain ⟨vs, h3, h4⟩ := hgs _ _ _ _ hF h1
    exact ⟨_, h3, by simp [Opds.ev, h2 hn, h4]⟩

section
variable {tbl : Nat → Option CFunc} {ci : CI} {env : Env} {F0 : F} {fr : Tr AV} {kv kp : KV} {nx : Pos} {t : Tr AO} {x y z : Opd} {gx gy gz : OG}

/-! Operands that are looked at. -/
theorem OGood.any (h : OGood x gx) (hF : RF F0 fr) {k : AV → Tri} (hk : gx (fun v => chk (k v) v) env F0 = .yes) : ∃ v, v ≠ .nil ∧ k v = .yes ∧ x.ev env.toAV fr = some v := by
  obtain ⟨v, h1, h2⟩ := h _ _ _ _ hF hk
  obtain ⟨hn, h1⟩ := chk_yes h1
  exact ⟨v, hn, h1, h2 hn⟩
theorem OGood.int (h : OGood x gx) (hF : RF F0 fr) {k : Nat → Int → Tri} (hk : gx (onInt k) env F0 = .yes) : ∃ c n, k c n = .yes ∧ x.ev env.toAV fr = some (.int c n) := by
  obtain ⟨v, h1, h2⟩ := h _ _ _ _ hF hk
  obtain ⟨c, n, rfl, h1⟩ := onInt_yes h1
  exact ⟨c, n, h1, h2 AV.noConfusion⟩
theorem OGood.bool (h : OGood x gx) (hF : RF F0 fr) {k : Bool → Tri} (hk : gx (onBool k) env F0 = .yes) : ∃ b, k b = .yes ∧ x.ev env.toAV fr = some (.bool b) := by
  obtain ⟨v, h1, h2⟩ := h _ _ _ _ hF hk
  obtain ⟨c, rfl, h1⟩ := onBool_yes h1
  exact ⟨c, h1, h2 AV.noConfusion⟩
theorem OGood.str (h : OGood x gx) (hF : RF F0 fr) {k : Nat → Nat → Tri} (hk : gx (onStr k) env F0 = .yes) : ∃ l n, k l n = .yes ∧ x.ev env.toAV fr = some (.str l n) := by
  obtain ⟨v, h1, h2⟩ := h _ _ _ _ hF hk
  obtain ⟨c, n, rfl, h1⟩ := onStr_yes h1
  exact ⟨c, n, h1, h2 AV.noConfusion⟩
theorem OGood.ptr (h : OGood x gx) (hF : RF F0 fr) {k : Pos → Nat → Tri} (hk : gx (onPtr k) env F0 = .yes) : ∃ p o, k p o = .yes ∧ x.ev env.toAV fr = some (.ptr p o) := by
  obtain ⟨v, h1, h2⟩ := h _ _ _ _ hF hk
  obtain ⟨c, n, rfl, h1⟩ := onPtr_yes h1
  exact ⟨c, n, h1, h2 AV.noConfusion⟩
theorem OGood.agg (h : OGood x gx) (hF : RF F0 fr) {k : AV → Tri} (hk : gx (onAgg k) env F0 = .yes) : ∃ b, k b = .yes ∧ x.ev env.toAV fr = some (.agg b) := by
  obtain ⟨v, h1, h2⟩ := h _ _ _ _ hF hk
  obtain ⟨c, rfl, h1⟩ := onAgg_yes h1
  exact ⟨c, h1, h2 AV.noConfusion⟩
theorem OGood.tup (h : OGood x gx) (hF : RF F0 fr) {k : AV → Tri} (hk : gx (onTup k) env F0 = .yes) : ∃ b, k b = .yes ∧ x.ev env.toAV fr = some (.tuple b) := by
  obtain ⟨v, h1, h2⟩ := h _ _ _ _ hF hk
  obtain ⟨c, rfl, h1⟩ := onTup_yes h1
  exact ⟨c, h1, h2 AV.noConfusion⟩
def onNat (f : Nat → Tri) (v : AV) : Tri := onInt (fun _ n => Int.rec (motive := fun _ => Tri) f (fun _ => .no) n) v
theorem onNat_yes {f : Nat → Tri} {v : AV} (h : onNat f v = .yes) : ∃ c n, v = .int c (.ofNat n) ∧ f n = .yes := by
  obtain ⟨c, n, rfl, h⟩ := onInt_yes h
  cases n with
  | ofNat n => exact ⟨c, n, rfl, h⟩
  | negSucc n => cases h
theorem OGood.nat (h : OGood x gx) (hF : RF F0 fr) {k : Nat → Tri} (hk : gx (onNat k) env F0 = .yes) : ∃ c n, k n = .yes ∧ x.ev env.toAV fr = some (.int c (.ofNat n)) := by
  obtain ⟨v, h1, h2⟩ := h _ _ _ _ hF hk
  obtain ⟨c, n, rfl, h1⟩ := onNat_yes h1
  exact ⟨c, n, h1, h2 AV.noConfusion⟩
/-- Where the nothing comes to no. -/
theorem OGood.of (h : OGood x gx) (hF : RF F0 fr) {k : AV → Tri} (hn : k .nil = .no) (hk : gx k env F0 = .yes) : ∃ v, k v = .yes ∧ x.ev env.toAV fr = some v := by
  obtain ⟨v, h1, h2⟩ := h _ _ _ _ hF hk
  exact ⟨v, h1, h2 (fun e => by rw [e, hn] at h1; cases h1)⟩

theorem OpGood.ev {f : OpF} (hci : ∀ call yld ls fr H, CI.run call yld ls fr H ci = (ci.ev ls fr H).map fun r => (.ret r.1, r.2))
    (h : ∀ call env (F0 : F) fr (kv kp : KV) nx t, RF F0 fr → f call env F0 kv kp nx t = .yes → ∃ v H', ci.ev env.toAV fr ⟨nx, t⟩ = some (v, H') ∧ kv v H'.next H'.t = .yes) : OpGood tbl ci f := by
  intro Y call _ env F0 fr kv kp nx t hF _ hf
  obtain ⟨v, H', h1, h2⟩ := h call env F0 fr kv kp nx t hF hf
  exact ⟨0, .ret v, H', by rw [hci, h1]; rfl, h2⟩
theorem OpGood.evI {f : OpF} (hci : ∀ call yld ls fr H, CI.run call yld ls fr H ci = (ci.ev ls fr H).map fun r => (.ret r.1, r.2))
    (h : ∀ call env (F0 : F) fr (kv kp : KV) nx t, RF F0 fr → RInv ⟨nx, t⟩ → f call env F0 kv kp nx t = .yes → ∃ v H', ci.ev env.toAV fr ⟨nx, t⟩ = some (v, H') ∧ kv v H'.next H'.t = .yes) : OpGood tbl ci f := by
  intro Y call _ env F0 fr kv kp nx t hF hI hf
  obtain ⟨v, H', h1, h2⟩ := h call env F0 fr kv kp nx t hF hI hf
  exact ⟨0, .ret v, H', by rw [hci, h1]; rfl, h2⟩
end

/-- Where a slow answer is handed on. -/
def slowV (kv : KV) (nx : Pos) (t : Tr AO) (o : Option AV) : Tri := oT (fun v => fA v (fun v => kv v nx t)) o
theorem slowV_yes {kv : KV} {nx : Pos} {t : Tr AO} {o : Option AV} (h : slowV kv nx t o = .yes) : ∃ v, o = some v ∧ kv v nx t = .yes := by
  obtain ⟨v, h1, h2⟩ := oT_yes h
  rw [fA_eq] at h2
  exact ⟨v, h1, h2⟩
def slowH (kv : KV) (o : Option (AV × Heap)) : Tri := oT (fun r => Prod.rec (motive := fun _ => Tri) (fun v H => fA v (fun v => Heap.rec (motive := fun _ => Tri) (fun nx t => kv v nx t) H)) r) o
theorem slowH_yes {kv : KV} {o : Option (AV × Heap)} (h : slowH kv o = .yes) : ∃ v H, o = some (v, H) ∧ kv v H.next H.t = .yes := by
  obtain ⟨⟨v, H⟩, h1, h2⟩ := oT_yes h
  have h3 : fA v (fun v => kv v H.next H.t) = .yes := h2
  rw [fA_eq] at h3
  exact ⟨v, H, h1, h3⟩

/-! The operations. -/
def opNo : OpF := fun _ _ _ _ _ _ _ => .no
theorem good_no {tbl : Nat → Option CFunc} {ci : CI} : OpGood tbl ci opNo := fun _ _ _ _ _ _ _ _ _ _ _ _ h => by cases h

section
variable {tbl : Nat → Option CFunc} {x y z : Opd} {gx gy gz : OG}

def opMov (gx : OG) : OpF := fun _ e f kv _ nx t => gx (fun v => chk (kv v nx t) v) e f
theorem good_mov (hx : OGood x gx) : OpGood tbl (.mov x) (opMov gx) := by
  refine .ev (fun _ _ _ _ _ => by simp only [CI.run]; cases CI.ev _ _ _ _ <;> rfl) fun call env F0 fr kv kp nx t hF h => ?_
  obtain ⟨v, _, h1, h2⟩ := hx.any hF h
  exact ⟨v, ⟨nx, t⟩, by simp [CI.ev, h2], h1⟩

def opPick (gx gy gz : OG) : OpF := fun _ e f kv _ nx t => gx (onBool fun b => Bool.rec (motive := fun _ => Tri) (gz (fun v => chk (kv v nx t) v) e f) (gy (fun v => chk (kv v nx t) v) e f) b) e f
theorem good_pick (hx : OGood x gx) (hy : OGood y gy) (hz : OGood z gz) : OpGood tbl (.pick x y z) (opPick gx gy gz) := by
  refine .ev (fun _ _ _ _ _ => by simp only [CI.run]; cases CI.ev _ _ _ _ <;> rfl) fun call env F0 fr kv kp nx t hF h => ?_
  obtain ⟨b, h1, h2⟩ := hx.bool hF h
  cases b with
  | true =>
    obtain ⟨v, _, h3, h4⟩ := hy.any hF h1
    exact ⟨v, ⟨nx, t⟩, by simp [CI.ev, h2, h4], h3⟩
  | false =>
    obtain ⟨v, _, h3, h4⟩ := hz.any hF h1
    exact ⟨v, ⟨nx, t⟩, by simp [CI.ev, h2, h4], h3⟩

/-- A text that is to be built. -/
def opBld (t e : Nat) : OpF := fun _ _ _ kv _ nx tr => newK (.bld t e false none) (fun p => kv (.ptr p 0)) nx tr
theorem good_bld (t e : Nat) : OpGood tbl (.bld t e) (opBld t e) := by
  refine .ev (fun _ _ _ _ _ => by simp only [CI.run]; cases CI.ev _ _ _ _ <;> rfl) fun call env F0 fr kv kp nx tr hF h => ?_
  have h : newK (.bld t e false none) (fun p => kv (.ptr p 0)) nx tr = .yes := h
  rw [newK_eq] at h
  exact ⟨_, _, rfl, h⟩

/-- A new row of cells that are known. -/
def opAlloc (tr : Tr AV) (n : Nat) : OpF := fun _ _ _ kv _ nx t => newK (.cells tr n false) (fun p => kv (.ptr p 0)) nx t
def dAlloc (z : AV) (n : Nat) : OpF := Bool.rec (motive := fun _ => OpF) opNo (Option.rec (motive := fun _ => OpF) opNo (fun tr => opAlloc tr n) (treeOf z)) (Nat.beq (lenR z) n)
theorem good_alloc (z : AV) (n : Nat) : OpGood tbl (.alloc z n) (dAlloc z n) := by
  unfold dAlloc
  cases hb : Nat.beq (lenR z) n with
  | false => exact good_no
  | true =>
    have hn : z.len = n := by rw [← lenR_eq]; exact Nat.eq_of_beq_eq_true hb
    cases ht : treeOf z with
    | none => exact good_no
    | some tr =>
      refine .ev (fun _ _ _ _ _ => by simp only [CI.run]; cases CI.ev _ _ _ _ <;> rfl) fun call env F0 fr kv kp nx t hF h => ?_
      have h : newK (.cells tr n false) (fun p => kv (.ptr p 0)) nx t = .yes := h
      rw [newK_eq] at h
      refine ⟨_, _, ?_, h⟩
      simp [CI.ev, hn, Heap.row, ht]

def opBox (gx : OG) : OpF := fun _ e f kv _ nx t => gx (cellsV fun cs => rowK cs false (fun p => kv (.ptr p 0)) nx t) e f
theorem good_box (hx : OGood x gx) : OpGood tbl (.box x) (opBox gx) := by
  refine .ev (fun _ _ _ _ _ => by simp only [CI.run]; cases CI.ev _ _ _ _ <;> rfl) fun call env F0 fr kv kp nx t hF h => ?_
  obtain ⟨v, h1, h2⟩ := hx.of hF rfl h
  obtain ⟨_, h1⟩ := cellsV_yes h1
  rw [rowK_eq] at h1
  obtain ⟨⟨p, H'⟩, h3, h4⟩ := oT_yes h1
  exact ⟨_, _, by simp [CI.ev, h2, h3], h4⟩

/-! What is built. -/
/-- A list's part, in the place of so many. -/
def dropK (n : Nat) (v : AV) (k : AV → Tri) : Tri := Nat.rec (motive := fun _ => AV → Tri) k (fun _ ih => onList .no (fun _ r => ih r)) n v
theorem dropK_yes {n : Nat} : ∀ {v : AV} {k : AV → Tri}, dropK n v k = .yes → k (v.drop n) = .yes ∧ n ≤ v.len := by
  induction n with
  | zero => intro v k h; exact ⟨by cases v <;> exact h, Nat.zero_le _⟩
  | succ n ih =>
    intro v k h
    rcases onList_yes (show onList .no (fun _ r => dropK n r k) v = .yes from h) with ⟨_, h⟩ | ⟨a, r, rfl, h⟩
    · cases h
    · obtain ⟨h1, h2⟩ := ih h
      exact ⟨h1, by simp only [AV.len]; omega⟩
def spliceK (off size : Nat) (cs : AV) (v : AV) (k : AV → Tri) : Tri :=
  Nat.rec (motive := fun _ => (AV → Tri) → AV → Tri) (fun k v => dropK size v (fun r => appK cs r k)) (fun _ ih k => onList .no (fun a r => ih (fun r => k (.cons a r)) r)) off k v
theorem spliceK_yes {off size : Nat} {cs : AV} : ∀ {v : AV} {k : AV → Tri}, spliceK off size cs v k = .yes → k (AV.app (v.take off) (AV.app cs (v.drop (off + size)))) = .yes ∧ off + size ≤ v.len := by
  induction off with
  | zero =>
    intro v k h
    obtain ⟨h1, h2⟩ := dropK_yes (show dropK size v (fun r => appK cs r k) = .yes from h)
    rw [appK_eq] at h1
    exact ⟨by cases v <;> simpa [AV.take, AV.app] using h1, by omega⟩
  | succ n ih =>
    intro v k h
    rcases onList_yes (show onList .no (fun a r => spliceK n size cs r (fun r => k (.cons a r))) v = .yes from h) with ⟨_, h⟩ | ⟨a, r, rfl, h⟩
    · cases h
    · obtain ⟨h1, h2⟩ := ih h
      refine ⟨?_, by simp only [AV.len]; omega⟩
      rw [show n + 1 + size = (n + size) + 1 by omega]
      exact h1

def PsGood (ps : Parts) (g : (AV → Tri) → AV → Env → F → Tri) : Prop := ∀ k t env (F0 : F) fr, RF F0 fr → g k t env F0 = .yes → ∃ v, k v = .yes ∧ ps.fill env.toAV fr t = some v
def dParts {β : Type} (ps : Parts) (no : β) : (((AV → Tri) → AV → Env → F → Tri) → β) → β :=
  Parts.rec (motive := fun _ => (((AV → Tri) → AV → Env → F → Tri) → β) → β) (fun K => K fun k t _ _ => k t)
    (fun off size x _ ih K => dOpd x no fun g => ih fun gs => K fun k t e f => g (cellsV fun cs => ifB (andB (Nat.beq (lenR cs) size) (isListR cs)) (spliceK off size cs t (fun t => gs k t e f)) .no) e f) ps
theorem dParts_eq {β : Type} (ps : Parts) (no : β) : ∀ (K : ((AV → Tri) → AV → Env → F → Tri) → β), dParts ps no K = no ∨ ∃ g, dParts ps no K = K g ∧ PsGood ps g := by
  induction ps with
  | nil => intro K; exact .inr ⟨_, rfl, fun k t env F0 fr _ h => ⟨t, h, rfl⟩⟩
  | cons off size x r ih =>
    intro K
    rcases dOpd_eq x no (fun g => dParts r no fun gs => K fun k t e f => g (cellsV fun cs => ifB (andB (Nat.beq (lenR cs) size) (isListR cs)) (spliceK off size cs t (fun t => gs k t e f)) .no) e f) with h | ⟨g, h, hg⟩
    · exact .inl h
    · rcases ih (fun gs => K fun k t e f => g (cellsV fun cs => ifB (andB (Nat.beq (lenR cs) size) (isListR cs)) (spliceK off size cs t (fun t => gs k t e f)) .no) e f) with h' | ⟨gs, h', hgs⟩
      · exact .inl (h.trans h')
      · refine .inr ⟨_, h.trans h', fun k t env F0 fr hF hk => ?_⟩
        obtain ⟨v, h1, h2⟩ := hg.of hF rfl hk
        obtain ⟨_, h1⟩ := cellsV_yes h1
        obtain ⟨h3, h4⟩ := ifB_yes h1
        rw [andB_eq, Bool.and_eq_true, lenR_eq, isListR_eq] at h3
        obtain ⟨h5, h6⟩ := spliceK_yes h4
        obtain ⟨u, h7, h8⟩ := hgs _ _ _ _ _ hF h5
        refine ⟨u, h7, ?_⟩
        have h9 : v.cells.len = size := Nat.eq_of_beq_eq_true h3.1
        simp only [Parts.fill, h2, Option.bind_eq_bind, Option.bind_some]
        rw [if_pos ⟨h9, h6, h3.2⟩]
        exact h8

def opBuild (z : AV) (g : (AV → Tri) → AV → Env → F → Tri) : OpF := fun _ e f kv _ nx t => g (fun cs => kv (.agg cs) nx t) z e f
theorem good_build {ps : Parts} {g : (AV → Tri) → AV → Env → F → Tri} (z : AV) (hg : PsGood ps g) : OpGood tbl (.build z ps) (opBuild z g) := by
  refine .ev (fun _ _ _ _ _ => by simp only [CI.run]; cases CI.ev _ _ _ _ <;> rfl) fun call env F0 fr kv kp nx t hF h => ?_
  obtain ⟨v, h1, h2⟩ := hg _ _ _ _ _ hF h
  exact ⟨.agg v, ⟨nx, t⟩, by simp [CI.ev, h2], h1⟩

def opBuildSl (z : AV) (n len : Nat) (g : (AV → Tri) → AV → Env → F → Tri) : OpF := fun _ e f kv _ nx t => g (fun cs => ifB (Nat.beq (lenR cs) n) (rowK cs false (fun p => kv (.slice p 0 len len)) nx t) .no) z e f
theorem good_buildSl {ps : Parts} {g : (AV → Tri) → AV → Env → F → Tri} (z : AV) (n len : Nat) (hg : PsGood ps g) : OpGood tbl (.buildSlice z n len ps) (opBuildSl (repl z len) n len g) := by
  refine .ev (fun _ _ _ _ _ => by simp only [CI.run]; cases CI.ev _ _ _ _ <;> rfl) fun call env F0 fr kv kp nx t hF h => ?_
  obtain ⟨v, h1, h2⟩ := hg _ _ _ _ _ hF h
  obtain ⟨h3, h4⟩ := ifB_yes h1
  rw [lenR_eq] at h3
  have h3 := Nat.eq_of_beq_eq_true h3
  rw [rowK_eq] at h4
  obtain ⟨⟨p, H'⟩, h5, h6⟩ := oT_yes h4
  exact ⟨_, _, by simp [CI.ev, h2, h3, h5], h6⟩

/-! Memory. -/
def opLoad1 (gx : OG) : OpF := fun _ e f kv _ nx t => gx (onPtr fun p o => cellK p o (fun v => kv v nx t) t) e f
theorem good_load1 (hx : OGood x gx) : OpGood tbl (.load1 x) (opLoad1 gx) := by
  refine .ev (fun _ _ _ _ _ => by simp only [CI.run]; cases CI.ev _ _ _ _ <;> rfl) fun call env F0 fr kv kp nx t hF h => ?_
  obtain ⟨p, o, h1, h2⟩ := hx.ptr hF h
  rw [cellK_eq (nx := nx)] at h1
  obtain ⟨v, h3, h4⟩ := oT_yes h1
  exact ⟨v, ⟨nx, t⟩, by simp [CI.ev, h2, h3], h4⟩
def opLoadN (n : Nat) (gx : OG) : OpF := fun _ e f kv _ nx t => gx (onPtr fun p o => cellsAtK p o n (fun v => kv (.agg v) nx t) t) e f
theorem good_loadN (n : Nat) (hx : OGood x gx) : OpGood tbl (.loadN n x) (opLoadN n gx) := by
  refine .ev (fun _ _ _ _ _ => by simp only [CI.run]; cases CI.ev _ _ _ _ <;> rfl) fun call env F0 fr kv kp nx t hF h => ?_
  obtain ⟨p, o, h1, h2⟩ := hx.ptr hF h
  rw [cellsAtK_eq (nx := nx)] at h1
  obtain ⟨v, h3, h4⟩ := oT_yes h1
  exact ⟨.agg v, ⟨nx, t⟩, by simp [CI.ev, h2, h3], h4⟩
def opStore (n : Nat) (gx gy : OG) : OpF := fun _ e f kv _ nx t => gx (onPtr fun p o => gy (cellsV fun cs => ifB (Nat.beq (lenR cs) n) (storeK p o cs (kv undefA) nx t) .no) e f) e f
theorem good_store (n : Nat) (hx : OGood x gx) (hy : OGood y gy) : OpGood tbl (.store n x y) (opStore n gx gy) := by
  refine .ev (fun _ _ _ _ _ => by simp only [CI.run]; cases CI.ev _ _ _ _ <;> rfl) fun call env F0 fr kv kp nx t hF h => ?_
  obtain ⟨p, o, h1, h2⟩ := hx.ptr hF h
  obtain ⟨v, h3, h4⟩ := hy.of hF rfl h1
  obtain ⟨_, h3⟩ := cellsV_yes h3
  obtain ⟨h5, h6⟩ := ifB_yes h3
  rw [lenR_eq] at h5
  have h5 := Nat.eq_of_beq_eq_true h5
  rw [storeK_eq] at h6
  obtain ⟨H', h7, h8⟩ := oT_yes h6
  exact ⟨_, _, by simp [CI.ev, h2, h4, h5, h7], h8⟩
def opStore1 (gx gy : OG) : OpF := fun _ e f kv _ nx t => gx (onPtr fun p o => gy (cellsV fun cs => onList .no (fun v r => onList (store1K p o v (kv undefA) nx t) (fun _ _ => .no) r) cs) e f) e f
theorem good_store1 (hx : OGood x gx) (hy : OGood y gy) : OpGood tbl (.store 1 x y) (opStore1 gx gy) := by
  refine .ev (fun _ _ _ _ _ => by simp only [CI.run]; cases CI.ev _ _ _ _ <;> rfl) fun call env F0 fr kv kp nx t hF h => ?_
  obtain ⟨p, o, h1, h2⟩ := hx.ptr hF h
  obtain ⟨v, h3, h4⟩ := hy.of hF rfl h1
  obtain ⟨_, h3⟩ := cellsV_yes h3
  rcases onList_yes h3 with ⟨_, h⟩ | ⟨a, r, hv, h5⟩
  · cases h
  rcases onList_yes h5 with ⟨rfl, h6⟩ | ⟨_, _, _, h⟩
  · rw [store1K_eq] at h6
    obtain ⟨H', h7, h8⟩ := oT_yes h6
    exact ⟨_, _, by simp [CI.ev, h2, h4, hv, AV.len, h7], h8⟩
  · cases h
def dStore (n : Nat) (gx gy : OG) : OpF := Nat.rec (motive := fun _ => OpF) (opStore 0 gx gy) (fun m _ => Nat.rec (motive := fun _ => OpF) (opStore1 gx gy) (fun _ _ => opStore n gx gy) m) n
theorem good_dStore (n : Nat) (hx : OGood x gx) (hy : OGood y gy) : OpGood tbl (.store n x y) (dStore n gx gy) := by
  rcases n with _ | (_ | n)
  · exact good_store 0 hx hy
  · exact good_store1 hx hy
  · exact good_store _ hx hy

end
end
end Go.Dx.K
set_option linter.unusedSimpArgs false
set_option linter.unusedVariables false
set_option linter.unusedSectionVars false
namespace Go.Dx.K
open Go.Dx

noncomputable section
section
variable {tbl : Nat → Option CFunc} {x y z : Opd} {gx gy gz : OG}

/-- A function of the program's. -/
def onFn (f : Nat → Tri) (g : Fn) : Tri := Fn.rec (motive := fun _ => Tri) f (fun _ => .no) (fun _ _ => .no) (fun _ _ _ _ => .no) (fun _ => .no) g
theorem onFn_yes {f : Nat → Tri} {g : Fn} (h : onFn f g = .yes) : ∃ n, g = .func n ∧ f n = .yes := by
  cases g <;> first | exact ⟨_, rfl, h⟩ | cases h

def nilChk (k : Tri) (v : AV) : Tri :=
  AV.rec (motive := fun _ => Tri) (fun _ _ _ => .no) .no (fun _ => .no) (fun _ _ => .no) (fun _ _ => .no) (fun _ _ => k) .no (fun _ _ _ _ => .no) (fun _ _ _ _ => .no) .no (fun _ => .no) .no (fun g _ _ _ _ => onFn (fun _ => k) g) .no (fun _ _ _ => k) .no (fun _ _ => .no) (fun _ _ => .no) .no (fun _ _ _ _ => .no) (fun _ => .no) v
def opNilCheck (gx : OG) : OpF := fun _ e f kv _ nx t => gx (fun v => nilChk (kv v nx t) v) e f
theorem good_nilCheck (hx : OGood x gx) : OpGood tbl (.nilCheck x) (opNilCheck gx) := by
  refine .ev (fun _ _ _ _ _ => by simp only [CI.run]; cases CI.ev _ _ _ _ <;> rfl) fun call env F0 fr kv kp nx t hF h => ?_
  obtain ⟨v, h1, h2⟩ := hx.of hF rfl h
  cases v with
  | ptr p o => exact ⟨.ptr p o, ⟨nx, t⟩, by simp [CI.ev, h2], h1⟩
  | iface u v => exact ⟨.iface u v, ⟨nx, t⟩, by simp [CI.ev, h2], h1⟩
  | func g a b =>
    obtain ⟨n, rfl, h3⟩ := onFn_yes h1
    exact ⟨.func (.func n) a b, ⟨nx, t⟩, by simp [CI.ev, h2], h3⟩
  | _ => cases h1

/-! Numbers. -/
theorem wrap_id (k : IntKind) {x : Int} (h0 : 0 ≤ x) (h1 : x < 2 ^ (k.bits - 1)) : k.wrap x = x := by
  have h2 : x % (2 ^ k.bits : Int) = x := Int.emod_eq_of_lt h0 (by cases k <;> simp only [IntKind.bits] at * <;> omega)
  simp only [IntKind.wrap, h2]
  rw [if_neg]
  simp only [Bool.and_eq_true, decide_eq_true_eq, not_and]
  intro _
  omega
theorem wrap64 {n : Nat} (h : n < 9223372036854775808) : IntKind.i64.wrap (Int.ofNat n) = Int.ofNat n :=
  wrap_id _ (by simp) (by simp only [IntKind.bits, Int.ofNat_eq_natCast]; omega)

def addK (a b : Int) (kv : KV) (nx : Pos) (t : Tr AO) : Tri :=
  Int.rec (motive := fun _ => Tri) (fun m => Int.rec (motive := fun _ => Tri) (fun n => fN (fun s => Bool.rec (motive := fun _ => Tri) (slowV kv nx t (arithI .add 3 a b)) (kv (.int 3 (Int.ofNat s)) nx t) (Nat.blt s 9223372036854775808)) (Nat.add m n)) (fun _ => slowV kv nx t (arithI .add 3 a b)) b) (fun _ => slowV kv nx t (arithI .add 3 a b)) a
theorem addK_yes {a b : Int} {kv : KV} {nx : Pos} {t : Tr AO} (h : addK a b kv nx t = .yes) : ∃ v, arithI .add 3 a b = some v ∧ kv v nx t = .yes := by
  cases a with
  | ofNat m =>
    cases b with
    | ofNat n =>
      have h : fN (fun s => Bool.rec (motive := fun _ => Tri) (slowV kv nx t (arithI .add 3 (.ofNat m) (.ofNat n))) (kv (.int 3 (Int.ofNat s)) nx t) (Nat.blt s 9223372036854775808)) (Nat.add m n) = .yes := h
      rw [fN_eq] at h
      cases hb : Nat.blt (Nat.add m n) 9223372036854775808 with
      | false => rw [hb] at h; exact slowV_yes h
      | true =>
        rw [hb] at h
        have hlt : m + n < 9223372036854775808 := by simpa using hb
        refine ⟨.int 3 (Int.ofNat (m + n)), ?_, h⟩
        show some (AV.int 3 (IntKind.i64.wrap (Int.ofNat m + Int.ofNat n))) = _
        rw [show Int.ofNat m + Int.ofNat n = Int.ofNat (m + n) from rfl, wrap64 hlt]
    | negSucc n => exact slowV_yes h
  | negSucc m => exact slowV_yes h
def subK (a b : Int) (kv : KV) (nx : Pos) (t : Tr AO) : Tri :=
  Int.rec (motive := fun _ => Tri) (fun m => Int.rec (motive := fun _ => Tri) (fun n => Bool.rec (motive := fun _ => Tri) (slowV kv nx t (arithI .sub 3 a b)) (fN (fun s => kv (.int 3 (Int.ofNat s)) nx t) (Nat.sub m n)) (andB (Nat.ble n m) (Nat.blt m 9223372036854775808))) (fun _ => slowV kv nx t (arithI .sub 3 a b)) b) (fun _ => slowV kv nx t (arithI .sub 3 a b)) a
theorem subK_yes {a b : Int} {kv : KV} {nx : Pos} {t : Tr AO} (h : subK a b kv nx t = .yes) : ∃ v, arithI .sub 3 a b = some v ∧ kv v nx t = .yes := by
  cases a with
  | ofNat m =>
    cases b with
    | ofNat n =>
      have h : Bool.rec (motive := fun _ => Tri) (slowV kv nx t (arithI .sub 3 (.ofNat m) (.ofNat n))) (fN (fun s => kv (.int 3 (Int.ofNat s)) nx t) (Nat.sub m n)) (andB (Nat.ble n m) (Nat.blt m 9223372036854775808)) = .yes := h
      cases hb : andB (Nat.ble n m) (Nat.blt m 9223372036854775808) with
      | false => rw [hb] at h; exact slowV_yes h
      | true =>
        rw [hb] at h
        have h : fN (fun s => kv (.int 3 (Int.ofNat s)) nx t) (Nat.sub m n) = .yes := h
        rw [fN_eq] at h
        rw [andB_eq, Bool.and_eq_true] at hb
        have h1 : n ≤ m := by simpa using hb.1
        have h2 : m < 9223372036854775808 := by simpa using hb.2
        refine ⟨.int 3 (Int.ofNat (m - n)), ?_, h⟩
        show some (AV.int 3 (IntKind.i64.wrap (Int.ofNat m - Int.ofNat n))) = _
        rw [show Int.ofNat m - Int.ofNat n = Int.ofNat (m - n) by simp only [Int.ofNat_eq_natCast]; omega, wrap64 (by omega)]
    | negSucc n => exact slowV_yes h
  | negSucc m => exact slowV_yes h

def opArith (op : BinOp) (c : Nat) (gx gy : OG) : OpF := fun _ e f kv _ nx t => gx (onInt fun j a => gy (onInt fun k b => ifB (andB (Nat.beq j c) (Nat.beq k c)) (slowV kv nx t (arithI op c a b)) .no) e f) e f
theorem good_arith (op : BinOp) (c : Nat) (hx : OGood x gx) (hy : OGood y gy) : OpGood tbl (.arith op c x y) (opArith op c gx gy) := by
  refine .ev (fun _ _ _ _ _ => by simp only [CI.run]; cases CI.ev _ _ _ _ <;> rfl) fun call env F0 fr kv kp nx t hF h => ?_
  obtain ⟨j, a, h1, h2⟩ := hx.int hF h
  obtain ⟨k, b, h3, h4⟩ := hy.int hF h1
  obtain ⟨h5, h6⟩ := ifB_yes h3
  rw [andB_eq, Bool.and_eq_true] at h5
  obtain ⟨v, h7, h8⟩ := slowV_yes h6
  have e1 := Nat.eq_of_beq_eq_true h5.1
  have e2 := Nat.eq_of_beq_eq_true h5.2
  exact ⟨v, ⟨nx, t⟩, by simp [CI.ev, h2, h4, asInt, e1, e2, h7], h8⟩
def opAdd (gx gy : OG) : OpF := fun _ e f kv _ nx t => gx (onInt fun j a => gy (onInt fun k b => ifB (andB (Nat.beq j 3) (Nat.beq k 3)) (addK a b kv nx t) .no) e f) e f
theorem good_add (hx : OGood x gx) (hy : OGood y gy) : OpGood tbl (.arith .add 3 x y) (opAdd gx gy) := by
  refine .ev (fun _ _ _ _ _ => by simp only [CI.run]; cases CI.ev _ _ _ _ <;> rfl) fun call env F0 fr kv kp nx t hF h => ?_
  obtain ⟨j, a, h1, h2⟩ := hx.int hF h
  obtain ⟨k, b, h3, h4⟩ := hy.int hF h1
  obtain ⟨h5, h6⟩ := ifB_yes h3
  rw [andB_eq, Bool.and_eq_true] at h5
  obtain ⟨v, h7, h8⟩ := addK_yes h6
  have e1 := Nat.eq_of_beq_eq_true h5.1
  have e2 := Nat.eq_of_beq_eq_true h5.2
  exact ⟨v, ⟨nx, t⟩, by simp [CI.ev, h2, h4, asInt, e1, e2, h7], h8⟩
def opSub (gx gy : OG) : OpF := fun _ e f kv _ nx t => gx (onInt fun j a => gy (onInt fun k b => ifB (andB (Nat.beq j 3) (Nat.beq k 3)) (subK a b kv nx t) .no) e f) e f
theorem good_sub (hx : OGood x gx) (hy : OGood y gy) : OpGood tbl (.arith .sub 3 x y) (opSub gx gy) := by
  refine .ev (fun _ _ _ _ _ => by simp only [CI.run]; cases CI.ev _ _ _ _ <;> rfl) fun call env F0 fr kv kp nx t hF h => ?_
  obtain ⟨j, a, h1, h2⟩ := hx.int hF h
  obtain ⟨k, b, h3, h4⟩ := hy.int hF h1
  obtain ⟨h5, h6⟩ := ifB_yes h3
  rw [andB_eq, Bool.and_eq_true] at h5
  obtain ⟨v, h7, h8⟩ := subK_yes h6
  have e1 := Nat.eq_of_beq_eq_true h5.1
  have e2 := Nat.eq_of_beq_eq_true h5.2
  exact ⟨v, ⟨nx, t⟩, by simp [CI.ev, h2, h4, asInt, e1, e2, h7], h8⟩
def isAdd (op : BinOp) : Bool := match op with | .add => true | _ => false
def isSub (op : BinOp) : Bool := match op with | .sub => true | _ => false
def dArith (op : BinOp) (c : Nat) (gx gy : OG) : OpF :=
  Bool.rec (motive := fun _ => OpF) (Bool.rec (motive := fun _ => OpF) (opArith op c gx gy) (opSub gx gy) (andB (isSub op) (Nat.beq c 3))) (opAdd gx gy) (andB (isAdd op) (Nat.beq c 3))
theorem good_dArith (op : BinOp) (c : Nat) (hx : OGood x gx) (hy : OGood y gy) : OpGood tbl (.arith op c x y) (dArith op c gx gy) := by
  unfold dArith
  cases h1 : andB (isAdd op) (Nat.beq c 3) with
  | true =>
    rw [andB_eq, Bool.and_eq_true] at h1
    have e1 := Nat.eq_of_beq_eq_true h1.2
    have e2 : op = .add := by have := h1.1; cases op <;> first | rfl | cases this
    subst e1 e2
    exact good_add hx hy
  | false =>
    cases h2 : andB (isSub op) (Nat.beq c 3) with
    | true =>
      rw [andB_eq, Bool.and_eq_true] at h2
      have e1 := Nat.eq_of_beq_eq_true h2.2
      have e2 : op = .sub := by have := h2.1; cases op <;> first | rfl | cases this
      subst e1 e2
      exact good_sub hx hy
    | false => exact good_arith op c hx hy

def opShift (op : BinOp) (c : Nat) (gx gy : OG) : OpF := fun _ e f kv _ nx t => gx (onInt fun j a => gy (onInt fun _ b => ifB (Nat.beq j c) (slowV kv nx t (shiftI op c a b)) .no) e f) e f
theorem good_shift (op : BinOp) (c : Nat) (hx : OGood x gx) (hy : OGood y gy) : OpGood tbl (.shift op c x y) (opShift op c gx gy) := by
  refine .ev (fun _ _ _ _ _ => by simp only [CI.run]; cases CI.ev _ _ _ _ <;> rfl) fun call env F0 fr kv kp nx t hF h => ?_
  obtain ⟨j, a, h1, h2⟩ := hx.int hF h
  obtain ⟨k, b, h3, h4⟩ := hy.int hF h1
  obtain ⟨h5, h6⟩ := ifB_yes h3
  obtain ⟨v, h7, h8⟩ := slowV_yes h6
  have e1 := Nat.eq_of_beq_eq_true h5
  exact ⟨v, ⟨nx, t⟩, by simp [CI.ev, h2, h4, asInt, e1, h7], h8⟩

def ltI (a b : Int) : Bool := notB (leI b a)
theorem ltI_eq (a b : Int) : ltI a b = decide (a < b) := by unfold ltI; rw [notB_eq, leI_eq]; by_cases h : b ≤ a <;> simp [h] <;> omega
def opCmp (r : Int → Int → Bool) (gx gy : OG) : OpF := fun _ e f kv _ nx t => gx (onInt fun j a => gy (onInt fun k b => ifB (Nat.beq j k) (fB (fun q => kv (.bool q) nx t) (r a b)) .no) e f) e f
/-- Orders, also where of the first integer bounds alone are known. -/
def opCmpO (r : Int → Int → Bool) (s : Int → Int → Int → Tri → Tri → Tri) (gx gy : OG) : OpF := fun _ e f kv _ nx t =>
  gx (onIntS (fun j a => gy (onInt fun k b => ifB (Nat.beq j k) (fB (fun q => kv (.bool q) nx t) (r a b)) .no) e f) (fun lo hi => gy (onInt fun k b => ifB (Nat.beq k 3) (s lo hi b (kv (.bool true) nx t) (kv (.bool false) nx t)) .no) e f)) e f
def sLss (lo hi b : Int) (y n : Tri) : Tri := ifB (ltI hi b) y (ifB (leI b lo) n .no)
def sLeq (lo hi b : Int) (y n : Tri) : Tri := ifB (leI hi b) y (ifB (ltI b lo) n .no)
def sGtr (lo hi b : Int) (y n : Tri) : Tri := ifB (ltI b lo) y (ifB (leI hi b) n .no)
def sGeq (lo hi b : Int) (y n : Tri) : Tri := ifB (leI b lo) y (ifB (ltI hi b) n .no)
def dCmp (op : BinOp) (gx gy : OG) : OpF := match op with
  | .eql => opCmp eqI gx gy
  | .neq => opCmp (fun a b => notB (eqI a b)) gx gy
  | .lss => opCmpO ltI sLss gx gy
  | .leq => opCmpO leI sLeq gx gy
  | .gtr => opCmpO (fun a b => ltI b a) sGtr gx gy
  | .geq => opCmpO (fun a b => leI b a) sGeq gx gy
  | _ => opNo
theorem good_cmp {op : BinOp} {r : Int → Int → Bool} (hr : ∀ a b, cmpI op a b = some (r a b)) (hx : OGood x gx) (hy : OGood y gy) : OpGood tbl (.cmp op x y) (opCmp r gx gy) := by
  refine .ev (fun _ _ _ _ _ => by simp only [CI.run]; cases CI.ev _ _ _ _ <;> rfl) fun call env F0 fr kv kp nx t hF h => ?_
  obtain ⟨j, a, h1, h2⟩ := hx.int hF h
  obtain ⟨k, b, h3, h4⟩ := hy.int hF h1
  obtain ⟨h5, h6⟩ := ifB_yes h3
  rw [fB_eq] at h6
  have e1 := Nat.eq_of_beq_eq_true h5
  exact ⟨.bool (r a b), ⟨nx, t⟩, by simp [CI.ev, h2, h4, cmpV, e1, hr], h6⟩
theorem sel_yes {a b : Bool} {y n : Tri} (h : ifB a y (ifB b n .no) = .yes) : (a = true ∧ y = .yes) ∨ (a = false ∧ b = true ∧ n = .yes) := by
  cases a with
  | true => exact .inl ⟨rfl, h⟩
  | false => cases b with
    | true => exact .inr ⟨rfl, rfl, h⟩
    | false => cases h
theorem good_cmpO {op : BinOp} {r : Int → Int → Bool} {s : Int → Int → Int → Tri → Tri → Tri} (hr : ∀ a b, cmpI op a b = some (r a b))
    (hs : ∀ lo hi b y n, s lo hi b y n = .yes → (symCmp op lo hi b = some true ∧ y = .yes) ∨ (symCmp op lo hi b = some false ∧ n = .yes)) (hx : OGood x gx) (hy : OGood y gy) : OpGood tbl (.cmp op x y) (opCmpO r s gx gy) := by
  refine .ev (fun _ _ _ _ _ => by simp only [CI.run]; cases CI.ev _ _ _ _ <;> rfl) fun call env F0 fr kv kp nx t hF h => ?_
  obtain ⟨v, h1, h2⟩ := hx _ _ _ _ hF h
  rcases onIntS_yes h1 with ⟨j, a, rfl, h1⟩ | ⟨p, lo, hi, rfl, h1⟩
  · have h2 := h2 AV.noConfusion
    obtain ⟨k, b, h3, h4⟩ := hy.int hF h1
    obtain ⟨h5, h6⟩ := ifB_yes h3
    rw [fB_eq] at h6
    have e1 := Nat.eq_of_beq_eq_true h5
    exact ⟨.bool (r a b), ⟨nx, t⟩, by simp [CI.ev, h2, h4, cmpV, e1, hr], h6⟩
  · have h2 := h2 AV.noConfusion
    obtain ⟨k, b, h3, h4⟩ := hy.int hF h1
    obtain ⟨h5, h6⟩ := ifB_yes h3
    have e1 := Nat.eq_of_beq_eq_true h5
    rcases hs _ _ _ _ _ h6 with ⟨e, h7⟩ | ⟨e, h7⟩
    · exact ⟨.bool true, ⟨nx, t⟩, by simp [CI.ev, h2, h4, cmpV, e1, e], h7⟩
    · exact ⟨.bool false, ⟨nx, t⟩, by simp [CI.ev, h2, h4, cmpV, e1, e], h7⟩
theorem good_dCmp (op : BinOp) (hx : OGood x gx) (hy : OGood y gy) : OpGood tbl (.cmp op x y) (dCmp op gx gy) := by
  unfold dCmp
  split
  · exact good_cmp (fun a b => by simp [cmpI, eqI_eq]) hx hy
  · exact good_cmp (fun a b => by simp [cmpI, eqI_eq, notB_eq, bne]) hx hy
  · refine good_cmpO (fun a b => by simp [cmpI, ltI_eq]) (fun lo hi b y n h => ?_) hx hy
    unfold sLss at h
    rcases sel_yes h with ⟨e, h⟩ | ⟨e, e2, h⟩
    · rw [ltI_eq] at e; simp at e; exact .inl ⟨by simp [symCmp, e], h⟩
    · rw [ltI_eq] at e; rw [leI_eq] at e2; simp at e e2; exact .inr ⟨by unfold symCmp; simp only; rw [if_neg (by omega), if_pos (by omega)], h⟩
  · refine good_cmpO (fun a b => by simp [cmpI, leI_eq]) (fun lo hi b y n h => ?_) hx hy
    unfold sLeq at h
    rcases sel_yes h with ⟨e, h⟩ | ⟨e, e2, h⟩
    · rw [leI_eq] at e; simp at e; exact .inl ⟨by simp [symCmp, e], h⟩
    · rw [leI_eq] at e; rw [ltI_eq] at e2; simp at e e2; exact .inr ⟨by unfold symCmp; simp only; rw [if_neg (by omega), if_pos (by omega)], h⟩
  · refine good_cmpO (fun a b => by simp [cmpI, ltI_eq]) (fun lo hi b y n h => ?_) hx hy
    unfold sGtr at h
    rcases sel_yes h with ⟨e, h⟩ | ⟨e, e2, h⟩
    · rw [ltI_eq] at e; simp at e; exact .inl ⟨by simp [symCmp, e], h⟩
    · rw [ltI_eq] at e; rw [leI_eq] at e2; simp at e e2; exact .inr ⟨by unfold symCmp; simp only; rw [if_neg (by omega), if_pos (by omega)], h⟩
  · refine good_cmpO (fun a b => by simp [cmpI, leI_eq]) (fun lo hi b y n h => ?_) hx hy
    unfold sGeq at h
    rcases sel_yes h with ⟨e, h⟩ | ⟨e, e2, h⟩
    · rw [leI_eq] at e; simp at e; exact .inl ⟨by simp [symCmp, e], h⟩
    · rw [leI_eq] at e; rw [ltI_eq] at e2; simp at e e2; exact .inr ⟨by unfold symCmp; simp only; rw [if_neg (by omega), if_pos (by omega)], h⟩
  · exact good_no

/-! Texts. -/
def opCat (gx gy : OG) : OpF := fun _ e f kv _ nx t => gx (onStr fun l n => gy (onStr fun k m => fN (fun s => ifB (Nat.ble s most) (fN (fun q => kv (.str s q) nx t) (Nat.add n (Nat.mul m (Nat.pow 256 l)))) .no) (Nat.add l k)) e f) e f
theorem good_cat (hx : OGood x gx) (hy : OGood y gy) : OpGood tbl (.cat x y) (opCat gx gy) := by
  refine .ev (fun _ _ _ _ _ => by simp only [CI.run]; cases CI.ev _ _ _ _ <;> rfl) fun call env F0 fr kv kp nx t hF h => ?_
  obtain ⟨l, n, h1, h2⟩ := hx.str hF h
  obtain ⟨k, m, h3, h4⟩ := hy.str hF h1
  rw [fN_eq] at h3
  obtain ⟨h5, h6⟩ := ifB_yes h3
  rw [fN_eq] at h6
  have h5 : l + k ≤ most := by simpa using h5
  exact ⟨.str (l + k) (n + m * 256 ^ l), ⟨nx, t⟩, by simp [CI.ev, h2, h4, h5], h6⟩
def opScmp (op : BinOp) (gx gy : OG) : OpF := fun _ e f kv _ nx t => gx (onStr fun l n => gy (onStr fun k m => oT (fun b => fB (fun b => kv (.bool b) nx t) b) (cmpS op l n k m)) e f) e f
theorem good_scmp (op : BinOp) (hx : OGood x gx) (hy : OGood y gy) : OpGood tbl (.scmp op x y) (opScmp op gx gy) := by
  refine .ev (fun _ _ _ _ _ => by simp only [CI.run]; cases CI.ev _ _ _ _ <;> rfl) fun call env F0 fr kv kp nx t hF h => ?_
  obtain ⟨l, n, h1, h2⟩ := hx.str hF h
  obtain ⟨k, m, h3, h4⟩ := hy.str hF h1
  obtain ⟨b, h5, h6⟩ := oT_yes h3
  rw [fB_eq] at h6
  exact ⟨.bool b, ⟨nx, t⟩, by simp [CI.ev, h2, h4, h5], h6⟩
def opSeq (ne : Bool) (gx gy : OG) : OpF := fun _ e f kv _ nx t => gx (onStr fun l n => gy (onStr fun k m => ifB (andB (Nat.beq l k) (Nat.beq n m)) (kv (.bool (notB ne)) nx t) (kv (.bool ne) nx t)) e f) e f
theorem good_seq (op : BinOp) (ne : Bool) (ho : ∀ l n k m, cmpS op l n k m = some ((l == k && n == m) != ne)) (hx : OGood x gx) (hy : OGood y gy) : OpGood tbl (.scmp op x y) (opSeq ne gx gy) := by
  refine .ev (fun _ _ _ _ _ => by simp only [CI.run]; cases CI.ev _ _ _ _ <;> rfl) fun call env F0 fr kv kp nx t hF h => ?_
  obtain ⟨l, n, h1, h2⟩ := hx.str hF h
  obtain ⟨k, m, h3, h4⟩ := hy.str hF h1
  rw [ifB_eq, andB_eq, show Nat.beq l k = (l == k) from Bool.eq_iff_iff.2 (by simp), show Nat.beq n m = (n == m) from Bool.eq_iff_iff.2 (by simp)] at h3
  refine ⟨.bool ((l == k && n == m) != ne), ⟨nx, t⟩, by simp [CI.ev, h2, h4, ho], ?_⟩
  split at h3
  · rename_i h; rw [h]; rw [notB_eq] at h3; simpa using h3
  · rename_i h; rw [Bool.not_eq_true] at h; rw [h]; simpa using h3
def dScmp (op : BinOp) (gx gy : OG) : OpF := match op with
  | .eql => opSeq false gx gy
  | .neq => opSeq true gx gy
  | op => opScmp op gx gy
theorem good_dScmp (op : BinOp) (hx : OGood x gx) (hy : OGood y gy) : OpGood tbl (.scmp op x y) (dScmp op gx gy) := by
  unfold dScmp
  split
  · exact good_seq _ _ (fun l n k m => by simp [cmpS]) hx hy
  · exact good_seq _ _ (fun l n k m => by simp [cmpS]) hx hy
  · exact good_scmp _ hx hy

def opEq (e : EK) (ne : Bool) (gx gy : OG) : OpF := fun _ en f kv _ nx t => gx (fun a => gy (fun b => eqAK e t a b (kv (.bool (notB ne)) nx t) (kv (.bool ne) nx t)) en f) en f
theorem eqAK_nil {e : EK} {t : Tr AO} {b : AV} {u v : Tri} : eqAK e t .nil b u v = .no := by
  cases e with
  | leaf l => cases l <;> rfl
  | _ => rfl
theorem eqAK_nil' {e : EK} {t : Tr AO} {a : AV} {u v : Tri} : eqAK e t a .nil u v = .no := by
  cases e with
  | leaf l => cases l <;> cases a <;> rfl
  | _ => cases a <;> rfl
theorem gx_no {x : Opd} {gx : OG} (hx : OGood x gx) {env : Env} {F0 : F} {fr : Tr AV} (hF : RF F0 fr) {k : AV → Tri} (hk : ∀ v, k v = .no) : gx k env F0 = .no := by
  cases h : gx k env F0 with
  | no => rfl
  | yes => obtain ⟨v, h1, _⟩ := hx _ _ _ _ hF h; rw [hk] at h1; cases h1
theorem good_eq (e : EK) (ne : Bool) (hx : OGood x gx) (hy : OGood y gy) : OpGood tbl (.eq e ne x y) (opEq e ne gx gy) := by
  refine .ev (fun _ _ _ _ _ => by simp only [CI.run]; cases CI.ev _ _ _ _ <;> rfl) fun call env F0 fr kv kp nx t hF h => ?_
  obtain ⟨a, h1, h2⟩ := hx.of hF (gx_no hy hF fun v => eqAK_nil) h
  obtain ⟨b, h3, h4⟩ := hy.of hF eqAK_nil' h1
  rw [eqAK_eq _ nx] at h3
  obtain ⟨q, h5, h6⟩ := oT_yes h3
  refine ⟨.bool (q != ne), ⟨nx, t⟩, by simp [CI.ev, h2, h4, h5], ?_⟩
  rw [ifB_eq, notB_eq] at h6
  cases q <;> simpa using h6

def opNeg (gx : OG) : OpF := fun _ e f kv _ nx t => gx (onInt fun c a => slowV kv nx t (arithI .sub c 0 a)) e f
theorem good_neg (hx : OGood x gx) : OpGood tbl (.neg x) (opNeg gx) := by
  refine .ev (fun _ _ _ _ _ => by simp only [CI.run]; cases CI.ev _ _ _ _ <;> rfl) fun call env F0 fr kv kp nx t hF h => ?_
  obtain ⟨c, a, h1, h2⟩ := hx.int hF h
  obtain ⟨v, h3, h4⟩ := slowV_yes h1
  exact ⟨v, ⟨nx, t⟩, by simp [CI.ev, h2, asInt, h3], h4⟩
def opCompl (gx : OG) : OpF := fun _ e f kv _ nx t => gx (onInt fun c a => slowV kv nx t (arithI .xor c (if (kindOf c).signed then -1 else (kindOf c).max) a)) e f
theorem good_compl (hx : OGood x gx) : OpGood tbl (.compl x) (opCompl gx) := by
  refine .ev (fun _ _ _ _ _ => by simp only [CI.run]; cases CI.ev _ _ _ _ <;> rfl) fun call env F0 fr kv kp nx t hF h => ?_
  obtain ⟨c, a, h1, h2⟩ := hx.int hF h
  obtain ⟨v, h3, h4⟩ := slowV_yes h1
  exact ⟨v, ⟨nx, t⟩, by simp only [CI.ev, h2, asInt, Option.bind_eq_bind, Option.bind_some, h3], h4⟩
def opNot (gx : OG) : OpF := fun _ e f kv _ nx t => gx (onBool fun b => Bool.rec (motive := fun _ => Tri) (kv (.bool true) nx t) (kv (.bool false) nx t) b) e f
theorem good_not (hx : OGood x gx) : OpGood tbl (.not x) (opNot gx) := by
  refine .ev (fun _ _ _ _ _ => by simp only [CI.run]; cases CI.ev _ _ _ _ <;> rfl) fun call env F0 fr kv kp nx t hF h => ?_
  obtain ⟨b, h1, h2⟩ := hx.bool hF h
  refine ⟨.bool !b, ⟨nx, t⟩, by simp [CI.ev, h2, asBool], ?_⟩
  cases b <;> exact h1

theorem wrapSmall {c n : Nat} (h : n < 128) : (kindOf c).wrap (Int.ofNat n) = Int.ofNat n :=
  wrap_id _ (by simp) (by cases kindOf c <;> simp only [IntKind.bits, Int.ofNat_eq_natCast] <;> omega)
def opConv (c : Nat) (gx : OG) : OpF := fun _ e f kv _ nx t => gx (onInt fun _ a => Int.rec (motive := fun _ => Tri) (fun n => Bool.rec (motive := fun _ => Tri) (slowV kv nx t (some (.int c ((kindOf c).wrap a)))) (kv (.int c a) nx t) (Nat.blt n (Nat.rec (motive := fun _ => Nat) 128 (fun _ _ => 9223372036854775808) (Nat.sub (Nat.mul (Nat.sub 4 c) (Nat.sub c 2)) 0)))) (fun _ => slowV kv nx t (some (.int c ((kindOf c).wrap a)))) a) e f
theorem conv_lim (c : Nat) : c = 3 ∨ (4 - c) * (c - 2) = 0 := by
  by_cases h : c = 3
  · exact .inl h
  · refine .inr (Nat.mul_eq_zero.2 ?_)
    omega
theorem good_conv (c : Nat) (hx : OGood x gx) : OpGood tbl (.convInt c x) (opConv c gx) := by
  refine .ev (fun _ _ _ _ _ => by simp only [CI.run]; cases CI.ev _ _ _ _ <;> rfl) fun call env F0 fr kv kp nx t hF h => ?_
  obtain ⟨d, a, h1, h2⟩ := hx.int hF h
  have slow : slowV kv nx t (some (.int c ((kindOf c).wrap a))) = .yes → ∃ v H', (CI.convInt c x).ev env.toAV fr ⟨nx, t⟩ = some (v, H') ∧ kv v H'.next H'.t = .yes := by
    intro hs
    obtain ⟨v, h3, h4⟩ := slowV_yes hs
    cases h3
    exact ⟨_, ⟨nx, t⟩, by simp only [CI.ev, h2, asInt, Option.bind_eq_bind, Option.bind_some], h4⟩
  cases a with
  | negSucc n => exact slow h1
  | ofNat n =>
    have h1 : Bool.rec (motive := fun _ => Tri) (slowV kv nx t (some (.int c ((kindOf c).wrap (.ofNat n))))) (kv (.int c (.ofNat n)) nx t) (Nat.blt n (Nat.rec (motive := fun _ => Nat) 128 (fun _ _ => 9223372036854775808) (Nat.sub (Nat.mul (Nat.sub 4 c) (Nat.sub c 2)) 0))) = .yes := h1
    cases hb : Nat.blt n (Nat.rec (motive := fun _ => Nat) 128 (fun _ _ => 9223372036854775808) (Nat.sub (Nat.mul (Nat.sub 4 c) (Nat.sub c 2)) 0)) with
    | false => rw [hb] at h1; exact slow h1
    | true =>
      rw [hb] at h1
      have hw : (kindOf c).wrap (Int.ofNat n) = Int.ofNat n := by
        rcases conv_lim c with rfl | hc
        · refine wrap64 ?_
          have hb : Nat.blt n 9223372036854775808 = true := hb
          simpa using hb
        · refine wrapSmall ?_
          have hc' : Nat.sub (Nat.mul (Nat.sub 4 c) (Nat.sub c 2)) 0 = 0 := hc
          rw [hc'] at hb
          have hb : Nat.blt n 128 = true := hb
          simpa using hb
      exact ⟨_, ⟨nx, t⟩, by simp only [CI.ev, h2, asInt, Option.bind_eq_bind, Option.bind_some, hw], h1⟩

def opSame (gx : OG) : OpF := fun _ e f kv _ nx t => gx (onStr fun l n => kv (.str l n) nx t) e f
theorem good_same (hx : OGood x gx) : OpGood tbl (.same x) (opSame gx) := by
  refine .ev (fun _ _ _ _ _ => by simp only [CI.run]; cases CI.ev _ _ _ _ <;> rfl) fun call env F0 fr kv kp nx t hF h => ?_
  obtain ⟨l, n, h1, h2⟩ := hx.str hF h
  exact ⟨_, ⟨nx, t⟩, by simp [CI.ev, h2], h1⟩
def opToBytes (gx : OG) : OpF := fun _ e f kv _ nx t => gx (onStr fun l n => bytesK l n (fun cs => rowK cs true (fun p => kv (.oslice p 0 l 1)) nx t)) e f
theorem good_toBytes (hx : OGood x gx) : OpGood tbl (.toBytes x) (opToBytes gx) := by
  refine .ev (fun _ _ _ _ _ => by simp only [CI.run]; cases CI.ev _ _ _ _ <;> rfl) fun call env F0 fr kv kp nx t hF h => ?_
  obtain ⟨l, n, h1, h2⟩ := hx.str hF h
  rw [bytesK_eq, rowK_eq] at h1
  obtain ⟨⟨p, H'⟩, h3, h4⟩ := oT_yes h1
  exact ⟨_, H', by simp [CI.ev, h2, h3], h4⟩
/-- A slice's length. -/
def lenK (k : Nat → Tri) (v : AV) : Tri := onSl (k 0) (fun _ _ n _ => k n) (fun _ _ n _ => k n) v
theorem lenK_yes {k : Nat → Tri} {v : AV} (h : lenK k v = .yes) : ∃ n, lenOf v = some n ∧ k n = .yes := by
  rcases onSl_yes h with ⟨rfl, h⟩ | ⟨p, a, b, c, rfl, h⟩ | ⟨p, a, b, c, rfl, h⟩ <;> exact ⟨_, rfl, h⟩
theorem lenK_nil {k : Nat → Tri} : lenK k .nil = .no := rfl
def opOfBytes (gx : OG) : OpF := fun _ e f kv _ nx t => gx (fun v => lenK (fun l => firstK 1 l (fun cs => numK cs (fun n => kv (.str l n) nx t)) t v) v) e f
theorem good_ofBytes (hx : OGood x gx) : OpGood tbl (.ofBytes x) (opOfBytes gx) := by
  refine .ev (fun _ _ _ _ _ => by simp only [CI.run]; cases CI.ev _ _ _ _ <;> rfl) fun call env F0 fr kv kp nx t hF h => ?_
  obtain ⟨v, h1, h2⟩ := hx.of hF rfl h
  obtain ⟨l, h3, h4⟩ := lenK_yes h1
  rw [firstK_eq _ _ _ nx] at h4
  obtain ⟨cs, h5, h6⟩ := oT_yes h4
  rw [numK_eq] at h6
  obtain ⟨n, h7, h8⟩ := oT_yes h6
  exact ⟨_, ⟨nx, t⟩, by simp [CI.ev, h2, h3, h5, h7], h8⟩

def opMkIface (u : Nat) (gx : OG) : OpF := fun _ e f kv _ nx t => gx (fun v => chk (kv (.iface u v) nx t) v) e f
theorem good_mkIface (u : Nat) (hx : OGood x gx) : OpGood tbl (.mkIface u x) (opMkIface u gx) := by
  refine .ev (fun _ _ _ _ _ => by simp only [CI.run]; cases CI.ev _ _ _ _ <;> rfl) fun call env F0 fr kv kp nx t hF h => ?_
  obtain ⟨v, _, h1, h2⟩ := hx.any hF h
  exact ⟨_, ⟨nx, t⟩, by simp [CI.ev, h2], h1⟩
def opMkFunc (fn : Fn) (ga gb : OG) : OpF := fun _ e f kv _ nx t => ga (fun a => gb (fun b => kv (.func fn a b) nx t) e f) e f
theorem good_mkFunc (fn : Fn) {xs ys : Opds} {ga gb : OG} (ha : OsGood xs ga) (hb : OsGood ys gb) : OpGood tbl (.mkFunc fn xs ys) (opMkFunc fn ga gb) := by
  refine .ev (fun _ _ _ _ _ => by simp only [CI.run]; cases CI.ev _ _ _ _ <;> rfl) fun call env F0 fr kv kp nx t hF h => ?_
  obtain ⟨a, h1, h2⟩ := ha _ _ _ _ hF h
  obtain ⟨b, h3, h4⟩ := hb _ _ _ _ hF h1
  exact ⟨_, ⟨nx, t⟩, by simp [CI.ev, h2, h4], h3⟩
def opMkMap : OpF := fun _ _ _ kv _ nx t => newK (.map .nil 0) (fun p => kv (.map p)) nx t
theorem good_mkMap : OpGood tbl .mkMap opMkMap := by
  refine .ev (fun _ _ _ _ _ => by simp only [CI.run]; cases CI.ev _ _ _ _ <;> rfl) fun call env F0 fr kv kp nx t hF h => ?_
  have h : newK (.map .nil 0) (fun p => kv (.map p)) nx t = .yes := h
  rw [newK_eq] at h
  exact ⟨_, _, rfl, h⟩
/-- So many times the same cells. -/
def replK (z : AV) (n : Nat) : (AV → Tri) → Tri := Nat.rec (motive := fun _ => (AV → Tri) → Tri) (fun k => k .nil) (fun _ ih k => ih (fun r => appK z r k)) n
theorem replK_eq (z : AV) (n : Nat) : ∀ k, replK z n k = k (repl z n) := by
  induction n with
  | zero => intro k; rfl
  | succ n ih =>
    intro k
    show replK z n (fun r => appK z r k) = _
    rw [ih, appK_eq]
    rfl
def opMakeSl (z : AV) (size : Nat) (gx gy : OG) : OpF := fun _ e f kv _ nx t => gx (onNat fun l => gy (onNat fun c => ifB (andB (Nat.ble l c) (andB (Nat.ble c most) (Nat.beq (lenR z) size))) (replK z c (fun cs => rowK cs false (fun p => kv (.slice p 0 l c)) nx t)) .no) e f) e f
theorem good_makeSl (z : AV) (size : Nat) (hx : OGood x gx) (hy : OGood y gy) : OpGood tbl (.makeSlice z size x y) (opMakeSl z size gx gy) := by
  refine .ev (fun _ _ _ _ _ => by simp only [CI.run]; cases CI.ev _ _ _ _ <;> rfl) fun call env F0 fr kv kp nx t hF h => ?_
  obtain ⟨c1, l, h1, h2⟩ := hx.nat hF h
  obtain ⟨c2, c, h3, h4⟩ := hy.nat hF h1
  obtain ⟨h5, h6⟩ := ifB_yes h3
  rw [andB_eq, andB_eq, Bool.and_eq_true, Bool.and_eq_true, lenR_eq] at h5
  have e1 : l ≤ c := by simpa using h5.1
  have e2 : c ≤ most := by simpa using h5.2.1
  have e3 := Nat.eq_of_beq_eq_true h5.2.2
  rw [replK_eq, rowK_eq] at h6
  obtain ⟨⟨p, H'⟩, h7, h8⟩ := oT_yes h6
  refine ⟨_, H', ?_, h8⟩
  simp only [CI.ev, h2, h4, Option.bind_eq_bind, Option.bind_some, asNat]
  rw [if_pos ⟨e1, e2, e3⟩]
  simp [h7]
end
end
end Go.Dx.K
set_option linter.unusedSimpArgs false
set_option linter.unusedVariables false
set_option linter.unusedSectionVars false
namespace Go.Dx.K
open Go.Dx

noncomputable section
section
variable {tbl : Nat → Option CFunc} {x y z : Opd} {gx gy gz : OG}

/-! Bounds that may be there. -/
abbrev NG := (Option Nat → Tri) → Env → F → Tri
def NGood (x : Option Opd) (g : NG) : Prop := ∀ k env (F0 : F) fr, RF F0 fr → g k env F0 = .yes → ∃ o, k o = .yes ∧ optN env.toAV fr x = some o
def dOptN {β : Type} (x : Option Opd) (no : β) (K : NG → β) : β :=
  Option.rec (motive := fun _ => β) (K fun k _ _ => k none) (fun x => dOpd x no fun g => K fun k e f => g (onNat fun n => k (some n)) e f) x
theorem dOptN_eq {β : Type} (x : Option Opd) (no : β) (K : NG → β) : dOptN x no K = no ∨ ∃ g, dOptN x no K = K g ∧ NGood x g := by
  cases x with
  | none => exact .inr ⟨_, rfl, fun k env F0 fr _ h => ⟨none, h, rfl⟩⟩
  | some x =>
    rcases dOpd_eq x no (fun g => K fun k e f => g (onNat fun n => k (some n)) e f) with h | ⟨g, h, hg⟩
    · exact .inl h
    · refine .inr ⟨_, h, fun k env F0 fr hF hk => ?_⟩
      obtain ⟨c, n, h1, h2⟩ := hg.nat hF hk
      exact ⟨some n, h1, by simp [optN, h2, asNat]⟩

def orN (o : Option Nat) (d : Nat) : Nat := Option.rec (motive := fun _ => Nat) d (fun n => n) o
theorem orN_eq (o : Option Nat) (d : Nat) : orN o d = o.getD d := by cases o <;> rfl
def boundsK (len cap : Nat) (lo hi mx : Option Nat) (k : Nat → Nat → Nat → Tri) : Tri :=
  fN (fun m => fN (fun h => fN (fun l => ifB (andB (Nat.ble m cap) (andB (Nat.ble h m) (Nat.ble l h))) (k l h m) .no) (orN lo 0)) (orN hi len)) (orN mx cap)
theorem boundsK_yes {len cap : Nat} {lo hi mx : Option Nat} {k : Nat → Nat → Nat → Tri} (h : boundsK len cap lo hi mx k = .yes) : ∃ l h m, sliceBounds len cap lo hi mx = some (l, h, m) ∧ k l h m = .yes := by
  unfold boundsK at h
  rw [fN_eq, fN_eq, fN_eq] at h
  obtain ⟨h1, h2⟩ := ifB_yes h
  rw [andB_eq, andB_eq, Bool.and_eq_true, Bool.and_eq_true, orN_eq, orN_eq, orN_eq] at h1
  rw [orN_eq, orN_eq, orN_eq] at h2
  refine ⟨_, _, _, ?_, h2⟩
  unfold sliceBounds
  simp only
  rw [if_pos ⟨by simpa using h1.1, by simpa using h1.2.1, by simpa using h1.2.2⟩]

def opSliceStr (gx : OG) (gl gh : NG) : OpF := fun _ e f kv _ nx t => gx (onStr fun len n => gl (fun lo => gh (fun hi => boundsK len len lo hi none fun l h _ => fN (fun d => fN (fun q => kv (.str d q) nx t) (Nat.mod (Nat.div n (Nat.pow 256 l)) (Nat.pow 256 d))) (Nat.sub h l)) e f) e f) e f
theorem good_sliceStr {lo hi : Option Opd} {gl gh : NG} (hx : OGood x gx) (hl : NGood lo gl) (hh : NGood hi gh) : OpGood tbl (.sliceStr x lo hi) (opSliceStr gx gl gh) := by
  refine .ev (fun _ _ _ _ _ => by simp only [CI.run]; cases CI.ev _ _ _ _ <;> rfl) fun call env F0 fr kv kp nx t hF h => ?_
  obtain ⟨len, n, h1, h2⟩ := hx.str hF h
  obtain ⟨lo', h3, h4⟩ := hl _ _ _ _ hF h1
  obtain ⟨hi', h5, h6⟩ := hh _ _ _ _ hF h3
  obtain ⟨l, h, m, h7, h8⟩ := boundsK_yes h5
  rw [fN_eq, fN_eq] at h8
  exact ⟨.str (h - l) (n / 256 ^ l % 256 ^ (h - l)), ⟨nx, t⟩, by simp [CI.ev, h2, h4, h6, h7], h8⟩

def opSliceSl (size : Nat) (gx : OG) (gl gh gm : NG) : OpF := fun _ e f kv _ nx t => gl (fun lo => gh (fun hi => gm (fun mx => gx (onSl
    (boundsK 0 0 lo hi mx fun _ _ _ => kv .nilslice nx t)
    (fun p off len cap => boundsK len cap lo hi mx fun l h m => ifB (Nat.beq m l) (kv (.slice p off 0 0) nx t) (fN (fun o => fN (fun d => fN (fun c => kv (.slice p o d c) nx t) (Nat.sub m l)) (Nat.sub h l)) (Nat.add off (Nat.mul l size))))
    (fun p off len s => ifB (Nat.beq s size) (getT p (onCells fun _ n op => ifB op (fN (fun cap =>
        Option.rec (motive := fun _ => Tri) (boundsK len cap lo hi none fun l h _ => fN (fun o => fN (fun d => kv (.oslice p o d size) nx t) (Nat.sub h l)) (Nat.add off (Nat.mul l size)))
          (fun _ => boundsK len cap lo hi mx fun l h m => ifB (Nat.beq m l) (ifB (Nat.beq len 0) .no (kv (.slice p off 0 0) nx t)) (fN (fun o => fN (fun d => fN (fun c => kv (.slice p o d c) nx t) (Nat.sub m l)) (Nat.sub h l)) (Nat.add off (Nat.mul l size)))) mx)
        (Nat.div (Nat.sub n off) size)) .no) t) .no)) e f) e f) e f) e f
theorem good_sliceSl (size : Nat) {lo hi mx : Option Opd} {gl gh gm : NG} (hx : OGood x gx) (hl : NGood lo gl) (hh : NGood hi gh) (hm : NGood mx gm) : OpGood tbl (.sliceSl size x lo hi mx) (opSliceSl size gx gl gh gm) := by
  refine .ev (fun _ _ _ _ _ => by simp only [CI.run]; cases CI.ev _ _ _ _ <;> rfl) fun call env F0 fr kv kp nx t hF h => ?_
  obtain ⟨lo', h3, h4⟩ := hl _ _ _ _ hF h
  obtain ⟨hi', h5, h6⟩ := hh _ _ _ _ hF h3
  obtain ⟨mx', h7, h8⟩ := hm _ _ _ _ hF h5
  obtain ⟨v, h9, h10⟩ := hx.of hF rfl h7
  rcases onSl_yes h9 with ⟨rfl, h11⟩ | ⟨p, off, len, cap, rfl, h11⟩ | ⟨p, off, len, s, rfl, h11⟩
  · obtain ⟨l, h, m, h12, h13⟩ := boundsK_yes h11
    exact ⟨.nilslice, ⟨nx, t⟩, by simp [CI.ev, h4, h6, h8, h10, h12], h13⟩
  · obtain ⟨l, h, m, h12, h13⟩ := boundsK_yes h11
    refine ⟨if m = l then .slice p off 0 0 else .slice p (off + l * size) (h - l) (m - l), ⟨nx, t⟩, by simp [CI.ev, h4, h6, h8, h10, h12], ?_⟩
    rw [ifB_eq, fN_eq, fN_eq, fN_eq] at h13
    by_cases e : m = l
    · rw [if_pos (by simp [e])] at h13; rw [if_pos e]; exact h13
    · rw [if_neg (by simpa using e)] at h13; rw [if_neg e]; exact h13
  · obtain ⟨h12, h13⟩ := ifB_yes h11
    have hs := Nat.eq_of_beq_eq_true h12
    subst hs
    rw [getT_eq] at h13
    obtain ⟨o, h14, h15⟩ := oT_yes h13
    cases o with
    | cells tr n op =>
      obtain ⟨h16, h17⟩ := ifB_yes (show ifB op _ .no = .yes from h15)
      subst h16
      rw [fN_eq] at h17
      cases mx' with
      | none =>
        obtain ⟨l, h, m, h18, h19⟩ := boundsK_yes h17
        rw [fN_eq, fN_eq] at h19
        have h18 : sliceBounds len ((n - off) / s) lo' hi' none = some (l, h, m) := h18
        exact ⟨_, ⟨nx, t⟩, by simp [CI.ev, h4, h6, h8, h10, Heap.get, h14, h18], h19⟩
      | some mm =>
        obtain ⟨l, h, m, h18, h19⟩ := boundsK_yes h17
        have h18 : sliceBounds len ((n - off) / s) lo' hi' (some mm) = some (l, h, m) := h18
        rw [ifB_eq] at h19
        by_cases e : m = l
        · rw [if_pos (by simp [e])] at h19
          rw [ifB_eq] at h19
          by_cases e2 : len = 0
          · rw [if_pos (by simp [e2])] at h19; cases h19
          · rw [if_neg (by simpa using e2)] at h19
            exact ⟨_, ⟨nx, t⟩, by simp [CI.ev, h4, h6, h8, h10, Heap.get, h14, h18, e, e2], h19⟩
        · rw [if_neg (by simpa using e)] at h19
          rw [fN_eq, fN_eq, fN_eq] at h19
          exact ⟨.slice p (off + l * s) (h - l) (m - l), ⟨nx, t⟩, by simp [CI.ev, h4, h6, h8, h10, Heap.get, h14, h18, e], h19⟩
    | _ => cases h15

def opSliceArr (size n : Nat) (gx : OG) (gl gh gm : NG) : OpF := fun _ e f kv _ nx t => gl (fun lo => gh (fun hi => gm (fun mx => gx (onPtr fun p off => boundsK n n lo hi mx fun l h m => ifB (Nat.beq m l) (kv (.slice p off 0 0) nx t) (fN (fun o => fN (fun d => fN (fun c => kv (.slice p o d c) nx t) (Nat.sub m l)) (Nat.sub h l)) (Nat.add off (Nat.mul l size)))) e f) e f) e f) e f
theorem good_sliceArr (size n : Nat) {lo hi mx : Option Opd} {gl gh gm : NG} (hx : OGood x gx) (hl : NGood lo gl) (hh : NGood hi gh) (hm : NGood mx gm) : OpGood tbl (.sliceArr size n x lo hi mx) (opSliceArr size n gx gl gh gm) := by
  refine .ev (fun _ _ _ _ _ => by simp only [CI.run]; cases CI.ev _ _ _ _ <;> rfl) fun call env F0 fr kv kp nx t hF h => ?_
  obtain ⟨lo', h3, h4⟩ := hl _ _ _ _ hF h
  obtain ⟨hi', h5, h6⟩ := hh _ _ _ _ hF h3
  obtain ⟨mx', h7, h8⟩ := hm _ _ _ _ hF h5
  obtain ⟨p, off, h9, h10⟩ := hx.ptr hF h7
  obtain ⟨l, h, m, h12, h13⟩ := boundsK_yes h9
  refine ⟨if m = l then .slice p off 0 0 else .slice p (off + l * size) (h - l) (m - l), ⟨nx, t⟩, by simp [CI.ev, h4, h6, h8, h10, h12], ?_⟩
  rw [ifB_eq, fN_eq, fN_eq, fN_eq] at h13
  by_cases e : m = l
  · rw [if_pos (by simp [e])] at h13; rw [if_pos e]; exact h13
  · rw [if_neg (by simpa using e)] at h13; rw [if_neg e]; exact h13

/-! Places. -/
def opFieldAddr (off : Nat) (gx : OG) : OpF := fun _ e f kv _ nx t => gx (onPtr fun p o => fN (fun o => kv (.ptr p o) nx t) (Nat.add o off)) e f
theorem good_fieldAddr (off : Nat) (hx : OGood x gx) : OpGood tbl (.fieldAddr off x) (opFieldAddr off gx) := by
  refine .ev (fun _ _ _ _ _ => by simp only [CI.run]; cases CI.ev _ _ _ _ <;> rfl) fun call env F0 fr kv kp nx t hF h => ?_
  obtain ⟨p, o, h1, h2⟩ := hx.ptr hF h
  rw [fN_eq] at h1
  exact ⟨.ptr p (o + off), ⟨nx, t⟩, by simp [CI.ev, h2], h1⟩
def opField1 (off : Nat) (gx : OG) : OpF := fun _ e f kv _ nx t => gx (onAgg fun cs => nthA off (fun v => kv v nx t) cs) e f
theorem good_field1 (off : Nat) (hx : OGood x gx) : OpGood tbl (.field1 off x) (opField1 off gx) := by
  refine .ev (fun _ _ _ _ _ => by simp only [CI.run]; cases CI.ev _ _ _ _ <;> rfl) fun call env F0 fr kv kp nx t hF h => ?_
  obtain ⟨cs, h1, h2⟩ := hx.agg hF h
  rw [nthA_eq] at h1
  obtain ⟨v, h3, h4⟩ := oT_yes h1
  exact ⟨v, ⟨nx, t⟩, by simp [CI.ev, h2, h3], h4⟩
def takeK (n : Nat) : (AV → Tri) → AV → Tri := Nat.rec (motive := fun _ => (AV → Tri) → AV → Tri) (fun k _ => k .nil) (fun _ ih k => onList .no (fun a r => ih (fun r => k (.cons a r)) r)) n
theorem takeK_yes {n : Nat} : ∀ {k : AV → Tri} {v : AV}, takeK n k v = .yes → k (v.take n) = .yes ∧ n ≤ v.len := by
  induction n with
  | zero => intro k v h; exact ⟨by cases v <;> exact h, Nat.zero_le _⟩
  | succ n ih =>
    intro k v h
    rcases onList_yes (show onList .no (fun a r => takeK n (fun r => k (.cons a r)) r) v = .yes from h) with ⟨_, h⟩ | ⟨a, r, rfl, h⟩
    · cases h
    · obtain ⟨h1, h2⟩ := ih h
      exact ⟨h1, by simp only [AV.len]; omega⟩
theorem drop_len : ∀ (v : AV) (n : Nat), n ≤ v.len → (v.drop n).len = v.len - n := by
  intro v
  induction v with
  | cons a r _ ih =>
    intro n h
    cases n with
    | zero => rfl
    | succ n =>
      simp only [AV.len] at h ⊢
      show (r.drop n).len = _
      rw [ih n (by omega)]
      omega
  | _ => intro n h; simp only [AV.len] at h ⊢; obtain rfl : n = 0 := by omega
         rfl
def opFieldN (off n : Nat) (gx : OG) : OpF := fun _ e f kv _ nx t => gx (onAgg fun cs => dropK off cs (fun r => takeK n (fun v => kv (.agg v) nx t) r)) e f
theorem sub_agg {cs : AV} {off n : Nat} {k : AV → Tri} (h : dropK off cs (fun r => takeK n k r) = .yes) : k ((cs.drop off).take n) = .yes ∧ off + n ≤ cs.len := by
  obtain ⟨h3, h4⟩ := dropK_yes h
  obtain ⟨h5, h6⟩ := takeK_yes h3
  rw [drop_len _ _ h4] at h6
  exact ⟨h5, by omega⟩
theorem good_fieldN (off n : Nat) (hx : OGood x gx) : OpGood tbl (.fieldN off n x) (opFieldN off n gx) := by
  refine .ev (fun _ _ _ _ _ => by simp only [CI.run]; cases CI.ev _ _ _ _ <;> rfl) fun call env F0 fr kv kp nx t hF h => ?_
  obtain ⟨cs, h1, h2⟩ := hx.agg hF h
  obtain ⟨h3, h4⟩ := sub_agg h1
  exact ⟨_, ⟨nx, t⟩, by simp [CI.ev, h2, h4], h3⟩
def opIdxSl (size : Nat) (gx gy : OG) : OpF := fun _ e f kv _ nx t => gy (onNat fun i => gx (onSl .no (fun p off len _ => ifB (Nat.blt i len) (fN (fun o => kv (.ptr p o) nx t) (Nat.add off (Nat.mul i size))) .no) (fun p off len _ => ifB (Nat.blt i len) (fN (fun o => kv (.ptr p o) nx t) (Nat.add off (Nat.mul i size))) .no)) e f) e f
theorem good_idxSl (size : Nat) (hx : OGood x gx) (hy : OGood y gy) : OpGood tbl (.idxSl size x y) (opIdxSl size gx gy) := by
  refine .ev (fun _ _ _ _ _ => by simp only [CI.run]; cases CI.ev _ _ _ _ <;> rfl) fun call env F0 fr kv kp nx t hF h => ?_
  obtain ⟨c, i, h1, h2⟩ := hy.nat hF h
  obtain ⟨v, h3, h4⟩ := hx.of hF rfl h1
  rcases onSl_yes h3 with ⟨_, h⟩ | ⟨p, off, len, cap, rfl, h5⟩ | ⟨p, off, len, s, rfl, h5⟩
  · cases h
  · obtain ⟨h6, h7⟩ := ifB_yes h5
    rw [fN_eq] at h7
    have h6 : i < len := by simpa using h6
    exact ⟨.ptr p (off + i * size), ⟨nx, t⟩, by simp [CI.ev, h2, h4, asNat, h6], h7⟩
  · obtain ⟨h6, h7⟩ := ifB_yes h5
    rw [fN_eq] at h7
    have h6 : i < len := by simpa using h6
    exact ⟨.ptr p (off + i * size), ⟨nx, t⟩, by simp [CI.ev, h2, h4, asNat, h6], h7⟩
def opIdxArr (size n : Nat) (gx gy : OG) : OpF := fun _ e f kv _ nx t => gy (onNat fun i => gx (onPtr fun p off => ifB (Nat.blt i n) (fN (fun o => kv (.ptr p o) nx t) (Nat.add off (Nat.mul i size))) .no) e f) e f
theorem good_idxArr (size n : Nat) (hx : OGood x gx) (hy : OGood y gy) : OpGood tbl (.idxArr size n x y) (opIdxArr size n gx gy) := by
  refine .ev (fun _ _ _ _ _ => by simp only [CI.run]; cases CI.ev _ _ _ _ <;> rfl) fun call env F0 fr kv kp nx t hF h => ?_
  obtain ⟨c, i, h1, h2⟩ := hy.nat hF h
  obtain ⟨p, off, h3, h4⟩ := hx.ptr hF h1
  obtain ⟨h6, h7⟩ := ifB_yes h3
  rw [fN_eq] at h7
  have h6 : i < n := by simpa using h6
  exact ⟨.ptr p (off + i * size), ⟨nx, t⟩, by simp [CI.ev, h2, h4, asNat, h6], h7⟩
def opIdxAgg1 (n : Nat) (gx gy : OG) : OpF := fun _ e f kv _ nx t => gy (onNat fun i => gx (onAgg fun cs => ifB (Nat.blt i n) (nthA i (fun v => kv v nx t) cs) .no) e f) e f
theorem good_idxAgg1 (n : Nat) (hx : OGood x gx) (hy : OGood y gy) : OpGood tbl (.idxAgg1 n x y) (opIdxAgg1 n gx gy) := by
  refine .ev (fun _ _ _ _ _ => by simp only [CI.run]; cases CI.ev _ _ _ _ <;> rfl) fun call env F0 fr kv kp nx t hF h => ?_
  obtain ⟨c, i, h1, h2⟩ := hy.nat hF h
  obtain ⟨cs, h3, h4⟩ := hx.agg hF h1
  obtain ⟨h6, h7⟩ := ifB_yes h3
  rw [nthA_eq] at h7
  obtain ⟨v, h8, h9⟩ := oT_yes h7
  have h6 : i < n := by simpa using h6
  exact ⟨v, ⟨nx, t⟩, by simp [CI.ev, h2, h4, asNat, h6, h8], h9⟩
def opIdxAggN (size n : Nat) (gx gy : OG) : OpF := fun _ e f kv _ nx t => gy (onNat fun i => gx (onAgg fun cs => ifB (Nat.blt i n) (fN (fun o => dropK o cs (fun r => takeK size (fun v => kv (.agg v) nx t) r)) (Nat.mul i size)) .no) e f) e f
theorem good_idxAggN (size n : Nat) (hx : OGood x gx) (hy : OGood y gy) : OpGood tbl (.idxAggN size n x y) (opIdxAggN size n gx gy) := by
  refine .ev (fun _ _ _ _ _ => by simp only [CI.run]; cases CI.ev _ _ _ _ <;> rfl) fun call env F0 fr kv kp nx t hF h => ?_
  obtain ⟨c, i, h1, h2⟩ := hy.nat hF h
  obtain ⟨cs, h3, h4⟩ := hx.agg hF h1
  obtain ⟨h6, h7⟩ := ifB_yes h3
  rw [fN_eq] at h7
  obtain ⟨h8, h9⟩ := sub_agg h7
  have h6 : i < n := by simpa using h6
  have h9 : i * size + size ≤ cs.len := h9
  exact ⟨.agg ((cs.drop (i * size)).take size), ⟨nx, t⟩, by simp [CI.ev, h2, h4, asNat, h6, h9], h8⟩
def opIdxStr (gx gy : OG) : OpF := fun _ e f kv _ nx t => gy (onNat fun i => gx (onStr fun len n => ifB (Nat.blt i len) (fN (fun b => kv (.int 4 (Int.ofNat b)) nx t) (Nat.mod (Nat.div n (Nat.pow 256 i)) 256)) .no) e f) e f
theorem good_idxStr (hx : OGood x gx) (hy : OGood y gy) : OpGood tbl (.idxStr x y) (opIdxStr gx gy) := by
  refine .ev (fun _ _ _ _ _ => by simp only [CI.run]; cases CI.ev _ _ _ _ <;> rfl) fun call env F0 fr kv kp nx t hF h => ?_
  obtain ⟨c, i, h1, h2⟩ := hy.nat hF h
  obtain ⟨len, n, h3, h4⟩ := hx.str hF h1
  obtain ⟨h6, h7⟩ := ifB_yes h3
  rw [fN_eq] at h7
  have h6 : i < len := by simpa using h6
  exact ⟨.int 4 (Int.ofNat (byteAt n i)), ⟨nx, t⟩, by simp [CI.ev, h2, h4, asNat, h6], h7⟩

/-! Maps. -/
def okKeyK (k : EK) (a : AV) (r : Tri) : Tri := eqKeyK k a a r r
theorem okKeyK_yes {k : EK} {a : AV} {r : Tri} (h : okKeyK k a r = .yes) : okKey k a = true ∧ r = .yes := by
  unfold okKeyK at h
  rw [eqKeyK_eq] at h
  obtain ⟨b, h1, h2⟩ := oT_yes h
  refine ⟨by unfold okKey; rw [h1]; rfl, ?_⟩
  cases b <;> exact h2
theorem okKey_nil {k : EK} {r : Tri} : okKeyK k .nil r = .no := by
  cases k with
  | leaf l => cases l <;> rfl
  | _ => rfl
def lookK (e : EK) (t : Tr AO) (x : AV) (kn : Tri) (ks : AV → Tri) (m : AV) : Tri := onMap kn (fun p => getT p (onMapO fun es _ => findK e x es kn ks) t) m
theorem lookK_eq (e : EK) (nx : Pos) (t : Tr AO) (x : AV) (k : Option AV → Tri) (m : AV) : lookK e t x (k none) (fun v => k (some v)) m = oT k (mapLook ⟨nx, t⟩ e x m) := by
  cases m with
  | map p =>
    show getT p (onMapO fun es _ => findK e x es (k none) (fun v => k (some v))) t = oT k (match t.get p with | some (.map es _) => es.find e x | _ => none)
    rw [getT_eq]
    cases t.get p with
    | none => rfl
    | some o => cases o with
      | map es c => exact findK_eq e x es k
      | _ => rfl
  | _ => rfl
/-- One that is not known, or another. -/
def symE (f g : Tri) (v : AV) : Tri :=
  AV.rec (motive := fun _ => Tri) (fun _ _ _ => f) g (fun _ => g) (fun _ _ => g) (fun _ _ => g) (fun _ _ => g) g (fun _ _ _ _ => g) (fun _ _ _ _ => g) g (fun _ => g) g (fun _ _ _ _ _ => g) g (fun _ _ _ => g) g (fun _ _ => g) (fun _ _ => g) g (fun _ _ _ _ => g) (fun _ => g) v
theorem symE_yes {f g : Tri} {v : AV} (h : symE f g v = .yes) : (∃ p a b, v = .sym p a b ∧ f = .yes) ∨ g = .yes := by cases v <;> first | exact .inl ⟨_, _, _, rfl, h⟩ | exact .inr h
def intsK (m : ME) (k : Tri) : Tri := ME.rec (motive := fun _ => Tri) k (fun y _ _ _ ih => onInt (fun c _ => ifB (Nat.beq c 3) ih .no) y) m
theorem intsK_yes {k : Tri} : ∀ {m : ME}, intsK m k = .yes → m.ints = true ∧ k = .yes := by
  intro m
  induction m with
  | nil => intro h; exact ⟨rfl, h⟩
  | cons y v b r ih =>
    intro h
    obtain ⟨c, n, rfl, h⟩ := onInt_yes (show onInt (fun c _ => ifB (Nat.beq c 3) (intsK r k) .no) y = .yes from h)
    obtain ⟨h1, h2⟩ := ifB_yes h
    have h1 := Nat.eq_of_beq_eq_true h1
    subst h1
    exact ih h2
def symMK (z a : Tri) (m : ME) : Tri := ME.rec (motive := fun _ => Tri) z (fun y v b r _ => intsK (.cons y v b r) a) m
def symK (e : EK) (t : Tr AO) (z a : Tri) (m : AV) : Tri :=
  EK.rec (motive := fun _ => Tri) (fun l => LK.rec (motive := fun _ => Tri) (onMap .no (fun p => getT p (onMapO fun es _ => symMK z a es) t) m) .no .no l) .no .no .no .no .no .no (fun _ => .no) e
theorem symK_yes {e : EK} {nx : Pos} {t : Tr AO} {z a : Tri} {m : AV} {p : Pos} {lo hi : Int} (h : symK e t z a m = .yes) :
    (mapLook ⟨nx, t⟩ e (.sym p lo hi) m = some none ∧ z = .yes) ∨ (mapLook ⟨nx, t⟩ e (.sym p lo hi) m = none ∧ symLook ⟨nx, t⟩ e (.sym p lo hi) m = true ∧ a = .yes) := by
  cases e with
  | leaf l => cases l with
    | int =>
      have h0 : onMap .no (fun p => getT p (onMapO fun es _ => symMK z a es) t) m = .yes := h
      clear h
      rcases onMap_yes h0 with ⟨_, h⟩ | ⟨q, rfl, h⟩
      · cases h
      · rw [getT_eq] at h
        obtain ⟨o, h1, h2⟩ := oT_yes h
        cases o with
        | map es c =>
          have h1' : Heap.get ⟨nx, t⟩ q = some (.map es c) := h1
          have h2 : symMK z a es = .yes := h2
          cases es with
          | nil => exact .inl ⟨by simp only [mapLook, h1']; rfl, h2⟩
          | cons y v b r =>
            obtain ⟨h3, h4⟩ := intsK_yes (show intsK (.cons y v b r) a = .yes from h2)
            refine .inr ⟨?_, by simp only [symLook, h1']; exact h3, h4⟩
            simp only [mapLook, h1', ME.find]
            have : ∃ n, y = .int 3 n := by
              unfold ME.ints at h3
              split at h3
              · rename_i e; cases e
              · rename_i e; cases e; exact ⟨_, rfl⟩
              · cases h3
            obtain ⟨n, rfl⟩ := this
            rfl
        | _ => cases h2
    | _ => cases h
  | _ => cases h
def opLookup (e : EK) (z : AV) (gm gx : OG) : OpF := fun _ en f kv _ nx t => gx (fun x => okKeyK e x (symE (gm (symK e t (kv z nx t) (kv .any nx t)) en f) (gm (fun m => lookK e t x (kv z nx t) (fun v => kv v nx t) m) en f) x)) en f
def opLookupOk (e : EK) (z : AV) (gm gx : OG) : OpF := fun _ en f kv _ nx t => gx (fun x => okKeyK e x (gm (fun m => lookK e t x (kv (.tuple (.cons z (.cons (.bool false) .nil))) nx t) (fun v => kv (.tuple (.cons v (.cons (.bool true) .nil))) nx t) m) en f)) en f
theorem good_lookup (e : EK) (z : AV) (hm : OGood x gx) (hy : OGood y gy) : OpGood tbl (.lookup e z false x y) (opLookup e z gx gy) := by
  refine .ev (fun _ _ _ _ _ => by simp only [CI.run]; cases CI.ev _ _ _ _ <;> rfl) fun call env F0 fr kv kp nx t hF h => ?_
  obtain ⟨v, h1, h2⟩ := hy.of hF okKey_nil h
  obtain ⟨h3, h4⟩ := okKeyK_yes h1
  rcases symE_yes h4 with ⟨p, a, b, rfl, h4⟩ | h4
  · obtain ⟨m, h5, h6⟩ := hm.of hF (by cases e with | leaf l => cases l <;> rfl | _ => rfl) h4
    rcases symK_yes (nx := nx) (p := p) (lo := a) (hi := b) h5 with ⟨h7, h8⟩ | ⟨h7, h8, h9⟩
    · exact ⟨z, ⟨nx, t⟩, by simp [CI.ev, h2, h6, h3, h7, lookRes], h8⟩
    · exact ⟨.any, ⟨nx, t⟩, by simp [CI.ev, h2, h6, h3, h7, h8], h9⟩
  obtain ⟨m, h5, h6⟩ := hm.of hF rfl h4
  have h5 : lookK e t v (kv (lookRes z false none) nx t) (fun v => kv (lookRes z false (some v)) nx t) m = .yes := h5
  rw [lookK_eq e nx t v (fun r => kv (lookRes z false r) nx t) m] at h5
  obtain ⟨r, h7, h8⟩ := oT_yes h5
  exact ⟨_, ⟨nx, t⟩, by simp [CI.ev, h2, h6, h3, h7], h8⟩
theorem good_lookupOk (e : EK) (z : AV) (hm : OGood x gx) (hy : OGood y gy) : OpGood tbl (.lookup e z true x y) (opLookupOk e z gx gy) := by
  refine .ev (fun _ _ _ _ _ => by simp only [CI.run]; cases CI.ev _ _ _ _ <;> rfl) fun call env F0 fr kv kp nx t hF h => ?_
  obtain ⟨v, h1, h2⟩ := hy.of hF okKey_nil h
  obtain ⟨h3, h4⟩ := okKeyK_yes h1
  obtain ⟨m, h5, h6⟩ := hm.of hF rfl h4
  have h5 : lookK e t v (kv (lookRes z true none) nx t) (fun v => kv (lookRes z true (some v)) nx t) m = .yes := h5
  rw [lookK_eq e nx t v (fun r => kv (lookRes z true r) nx t) m] at h5
  obtain ⟨r, h7, h8⟩ := oT_yes h5
  exact ⟨_, ⟨nx, t⟩, by simp [CI.ev, h2, h6, h3, h7], h8⟩
def onMapP (f : Pos → Tri) (v : AV) : Tri := onMap .no f v
def opUpdate (e : EK) (gm gx gv : OG) : OpF := fun _ en f kv _ nx t => gx (fun x => okKeyK e x (gv (fun v => chk (gm (onMapP fun p => getT p (onMapO fun es clock => putM e x v clock es fun es' fresh => fN (fun c => setT p (.map es' c) (fun t' => kv undefA nx t') t) (Bool.rec (motive := fun _ => Nat) clock (Nat.succ clock) fresh)) t) en f) v) en f)) en f
theorem good_update (e : EK) (hm : OGood x gx) (hy : OGood y gy) (hz : OGood z gz) : OpGood tbl (.update e x y z) (opUpdate e gx gy gz) := by
  refine .ev (fun _ _ _ _ _ => by simp only [CI.run]; cases CI.ev _ _ _ _ <;> rfl) fun call env F0 fr kv kp nx t hF h => ?_
  obtain ⟨k, h1, h2⟩ := hy.of hF okKey_nil h
  obtain ⟨h3, h4⟩ := okKeyK_yes h1
  obtain ⟨v, _, h5, h6⟩ := hz.any hF h4
  obtain ⟨m, h7, h8⟩ := hm.of hF rfl h5
  rcases onMap_yes h7 with ⟨_, h⟩ | ⟨p, rfl, h9⟩
  · cases h
  rw [getT_eq] at h9
  obtain ⟨o, h10, h11⟩ := oT_yes h9
  cases o with
  | map es clock =>
    have h11 : putM e k v clock es (fun es' fresh => fN (fun c => setT p (.map es' c) (fun t' => kv undefA nx t') t) (Bool.rec (motive := fun _ => Nat) clock (Nat.succ clock) fresh)) = .yes := h11
    rw [putM_eq] at h11
    obtain ⟨⟨es', fresh⟩, h12, h13⟩ := oT_yes h11
    rw [fN_eq, setT_eq] at h13
    refine ⟨undefA, ⟨nx, t.set p (.map es' (if fresh then clock + 1 else clock))⟩, ?_, ?_⟩
    · simp only [CI.ev, h2, h6, h8, h3, Option.bind_eq_bind, Option.bind_some, Bool.not_true, Bool.false_eq_true, if_false, mapPut, Heap.get, h10, h12, Option.map_some, Heap.put]
    · cases fresh <;> exact h13
  | _ => cases h11
def opDelete (e : EK) (gm gx : OG) : OpF := fun _ en f kv _ nx t => gx (fun x => okKeyK e x (gm (onMap (kv undefA nx t) fun p => getT p (onMapO fun es clock => delM e x es fun es' => setT p (.map es' clock) (fun t' => kv undefA nx t') t) t) en f)) en f
theorem good_delete (e : EK) (hm : OGood x gx) (hy : OGood y gy) : OpGood tbl (.delete e x y) (opDelete e gx gy) := by
  refine .ev (fun _ _ _ _ _ => by simp only [CI.run]; cases CI.ev _ _ _ _ <;> rfl) fun call env F0 fr kv kp nx t hF h => ?_
  obtain ⟨k, h1, h2⟩ := hy.of hF okKey_nil h
  obtain ⟨h3, h4⟩ := okKeyK_yes h1
  obtain ⟨m, h7, h8⟩ := hm.of hF rfl h4
  rcases onMap_yes h7 with ⟨rfl, h9⟩ | ⟨p, rfl, h9⟩
  · exact ⟨undefA, ⟨nx, t⟩, by simp [CI.ev, h2, h8, h3, mapDel], h9⟩
  rw [getT_eq] at h9
  obtain ⟨o, h10, h11⟩ := oT_yes h9
  cases o with
  | map es clock =>
    have h11 : delM e k es (fun es' => setT p (.map es' clock) (fun t' => kv undefA nx t') t) = .yes := h11
    rw [delM_eq] at h11
    obtain ⟨es', h12, h13⟩ := oT_yes h11
    rw [setT_eq] at h13
    refine ⟨undefA, ⟨nx, t.set p (.map es' clock)⟩, ?_, h13⟩
    simp only [CI.ev, h2, h8, h3, Option.bind_eq_bind, Option.bind_some, Bool.not_true, Bool.false_eq_true, if_false, mapDel, Heap.get, h10, h12, Option.map_some, Heap.put]
  | _ => cases h11

/-! Interfaces, tuples. -/
def opAssert (u : Nat) (gx : OG) : OpF := fun _ e f kv _ nx t => gx (onIface .no fun w v => ifB (Nat.beq w u) (kv v nx t) .no) e f
def opAssertOk (u : Nat) (z : AV) (gx : OG) : OpF := fun _ e f kv _ nx t => gx (onIface (kv (.tuple (.cons z (.cons (.bool false) .nil))) nx t) fun w v => ifB (Nat.beq w u) (kv (.tuple (.cons v (.cons (.bool true) .nil))) nx t) (kv (.tuple (.cons z (.cons (.bool false) .nil))) nx t)) e f
theorem good_assert (u : Nat) (z : AV) (hx : OGood x gx) : OpGood tbl (.assert u z false x) (opAssert u gx) := by
  refine .ev (fun _ _ _ _ _ => by simp only [CI.run]; cases CI.ev _ _ _ _ <;> rfl) fun call env F0 fr kv kp nx t hF h => ?_
  obtain ⟨v, h1, h2⟩ := hx.of hF rfl h
  rcases onIface_yes h1 with ⟨_, h⟩ | ⟨w, v, rfl, h3⟩
  · cases h
  obtain ⟨h4, h5⟩ := ifB_yes h3
  have e := Nat.eq_of_beq_eq_true h4
  exact ⟨v, ⟨nx, t⟩, by simp [CI.ev, h2, e], h5⟩
theorem good_assertOk (u : Nat) (z : AV) (hx : OGood x gx) : OpGood tbl (.assert u z true x) (opAssertOk u z gx) := by
  refine .ev (fun _ _ _ _ _ => by simp only [CI.run]; cases CI.ev _ _ _ _ <;> rfl) fun call env F0 fr kv kp nx t hF h => ?_
  obtain ⟨v, h1, h2⟩ := hx.of hF rfl h
  rcases onIface_yes h1 with ⟨rfl, h3⟩ | ⟨w, v, rfl, h3⟩
  · exact ⟨_, ⟨nx, t⟩, by simp [CI.ev, h2], h3⟩
  rw [ifB_eq] at h3
  by_cases e : w = u
  · rw [if_pos (by simp [e])] at h3
    exact ⟨_, ⟨nx, t⟩, by simp [CI.ev, h2, e], h3⟩
  · rw [if_neg (by simpa using e)] at h3
    exact ⟨_, ⟨nx, t⟩, by simp [CI.ev, h2, e], h3⟩
def opExtract (j : Nat) (gx : OG) : OpF := fun _ e f kv _ nx t => gx (onTup fun vs => nthA j (fun v => kv v nx t) vs) e f
theorem good_extract (j : Nat) (hx : OGood x gx) : OpGood tbl (.extract j x) (opExtract j gx) := by
  refine .ev (fun _ _ _ _ _ => by simp only [CI.run]; cases CI.ev _ _ _ _ <;> rfl) fun call env F0 fr kv kp nx t hF h => ?_
  obtain ⟨vs, h1, h2⟩ := hx.tup hF h
  rw [nthA_eq] at h1
  obtain ⟨v, h3, h4⟩ := oT_yes h1
  exact ⟨v, ⟨nx, t⟩, by simp [CI.ev, h2, h3], h4⟩

/-! Appending. -/
def srcK (size n : Nat) (k : AV → Tri) (t : Tr AO) (v : AV) : Tri :=
  AV.rec (motive := fun _ => Tri) (fun _ _ _ => .no) .no (fun _ => .no) (fun _ _ => .no) (fun l m => ifB (andB (Nat.ble n l) (Nat.beq size 1)) (bytesK n m k) .no) (fun _ _ => .no) .no (fun _ _ _ _ => firstK size n k t v) (fun _ _ _ _ => firstK size n k t v) (k .nil) (fun _ => .no) .no (fun _ _ _ _ _ => .no) .no (fun _ _ _ => .no) .no (fun _ _ => .no) (fun _ _ => .no) .no (fun _ _ _ _ => .no) (fun _ => .no) v
theorem srcK_eq (size n : Nat) (k : AV → Tri) (nx : Pos) (t : Tr AO) (v : AV) : srcK size n k t v = oT k (srcCells ⟨nx, t⟩ size n v) := by
  cases v with
  | str l m =>
    show ifB (andB (Nat.ble n l) (Nat.beq size 1)) (bytesK n m k) .no = oT k (if n ≤ l ∧ size = 1 then some (bytesFrom m 0 n) else none)
    rw [ifB_eq, andB_eq, bytesK_eq]
    by_cases h : n ≤ l ∧ size = 1
    · rw [if_pos (by simpa using h), if_pos h]; rfl
    · rw [if_neg (by simpa using h), if_neg h]; rfl
  | slice p off a b => exact firstK_eq size n k nx t _
  | oslice p off a b => exact firstK_eq size n k nx t _
  | _ => rfl
/-- A length of what is appended. -/
def lenSK (k : Nat → Tri) (v : AV) : Tri :=
  AV.rec (motive := fun _ => Tri) (fun _ _ _ => .no) .no (fun _ => .no) (fun _ _ => .no) (fun l _ => k l) (fun _ _ => .no) .no (fun _ _ n _ => k n) (fun _ _ n _ => k n) (k 0) (fun _ => .no) .no (fun _ _ _ _ _ => .no) .no (fun _ _ _ => .no) .no (fun _ _ => .no) (fun _ _ => .no) .no (fun _ _ _ _ => .no) (fun _ => .no) v
theorem lenSK_eq (k : Nat → Tri) (v : AV) : lenSK k v = oT k (lenOf v) := by cases v <;> rfl

theorem ifB_le {a b : Nat} {x y : Tri} : ifB (Nat.ble a b) x y = if a ≤ b then x else y := by
  rw [ifB_eq]
  by_cases h : a ≤ b
  · rw [if_pos (by simpa using h), if_pos h]
  · rw [if_neg (by simpa using h), if_neg h]
theorem ifB_e {a b : Nat} {x y : Tri} : ifB (Nat.beq a b) x y = if a = b then x else y := by
  rw [ifB_eq]
  by_cases h : a = b
  · rw [if_pos (by simpa using h), if_pos h]
  · rw [if_neg (by simpa using h), if_neg h]

/-- The first m of n cells. -/
def truncK (t : Tr AV) : Nat → Nat → (Tr AV → Tri) → Tri :=
  Tr.rec (motive := fun _ => Nat → Nat → (Tr AV → Tri) → Tri) (fun _ _ k => k .leaf) (fun _ _ _ _ _ _ _ => .no)
    (fun l x r ihl ihr m n k => ifB (Nat.beq m n) (k (.val l x r)) (ifB (Nat.beq m 0) (k .leaf) (fN (fun a => fN (fun b => fN (fun c => fN (fun d => ihl a b (fun l => ihr c d (fun r => k (.val l x r)))) (Nat.div (Nat.sub n 1) 2)) (Nat.div (Nat.sub m 1) 2)) (Nat.div n 2)) (Nat.div m 2)))) t
theorem truncK_yes {t : Tr AV} : ∀ {m n : Nat} {k : Tr AV → Tri}, truncK t m n k = .yes → k (t.trunc m n) = .yes := by
  induction t with
  | leaf => intro m n k h; exact h
  | nod l r _ _ => intro m n k h; cases (show Tri.no = .yes from h)
  | val l x r ihl ihr =>
    intro m n k h
    have h : ifB (Nat.beq m n) (k (.val l x r)) (ifB (Nat.beq m 0) (k .leaf) (fN (fun a => fN (fun b => fN (fun c => fN (fun d => truncK l a b (fun l => truncK r c d (fun r => k (.val l x r)))) (Nat.div (Nat.sub n 1) 2)) (Nat.div (Nat.sub m 1) 2)) (Nat.div n 2)) (Nat.div m 2))) = .yes := h
    rw [ifB_e, ifB_e, fN_eq, fN_eq, fN_eq, fN_eq] at h
    unfold Tr.trunc
    by_cases h1 : m = n
    · rw [if_pos h1] at h ⊢; exact h
    · rw [if_neg h1] at h ⊢
      by_cases h2 : m = 0
      · rw [if_pos h2] at h ⊢; exact h
      · rw [if_neg h2] at h ⊢
        exact ihr (ihl h)
theorem row_cells {t : Tr AV} {n : Nat} (h : Row t n) : ∀ {k o : Nat}, o + k ≤ n → ∃ cs, cellsFrom t o k = some cs := by
  intro k
  induction k with
  | zero => intro o _; exact ⟨.nil, rfl⟩
  | succ k ih =>
    intro o ho
    obtain ⟨v, hv⟩ := (h.1.get (key o)).1 (by rw [num_key]; omega)
    obtain ⟨r, hr⟩ := ih (o := o + 1) (by omega)
    exact ⟨.cons v r, by simp only [cellsFrom, hv, hr, Option.bind_eq_bind, Option.bind_some]⟩

/-- A new row's tree: of a row's cells, and others. -/
def growT (tr : Tr AV) (m off c : Nat) (new : AV) (k : Tr AV → Nat → Tri) : Tri :=
  ifB (Nat.beq off 0) (ifB (Nat.ble c m) (truncK tr c m (fun t => putK new (key c) t (fun t => fN (fun n => k t n) (Nat.add c (lenR new))))) .no)
    (cellsK tr c (key off) (fun old => appK old new (fun cs => putK cs .h .leaf (fun t => fN (fun n => k t n) (lenR cs)))))
theorem app_len : ∀ {x y : AV}, x.isList = true → (x.app y).len = x.len + y.len := by
  intro x
  induction x with
  | nil => intro y _; show y.len = 0 + y.len; omega
  | cons a r _ ih => intro y h; show (r.app y).len + 1 = _; rw [ih h]; simp only [AV.len]; omega
  | _ => intro y h; cases h
theorem cellsFrom_list : ∀ {k o : Nat} {t : Tr AV} {cs : AV}, cellsFrom t o k = some cs → cs.isList = true := by
  intro k
  induction k with
  | zero => intro o t cs h; cases h; rfl
  | succ k ih =>
    intro o t cs h
    simp only [cellsFrom, Option.bind_eq_bind, Option.bind_eq_some_iff] at h
    obtain ⟨v, _, r, h2, h3⟩ := h
    cases h3
    exact ih (cs := r) h2
theorem growT_yes {tr : Tr AV} {m off c : Nat} {new : AV} {k : Tr AV → Nat → Tri} (hR : Row tr m) (h : growT tr m off c new k = .yes) : ∃ old t, cellsFrom tr off c = some old ∧ treeOf (old.app new) = some t ∧ k t (old.app new).len = .yes := by
  unfold growT at h
  rw [ifB_e] at h
  split at h
  · rename_i e
    subst e
    rw [ifB_le] at h
    split at h
    · rename_i hc
      have h := truncK_yes h
      rw [putK_eq] at h
      obtain ⟨t, h1, h2⟩ := oT_yes h
      rw [fN_eq, lenR_eq] at h2
      obtain ⟨old, ho⟩ := row_cells hR (k := c) (o := 0) (by omega)
      refine ⟨old, t, ho, ?_, ?_⟩
      · unfold treeOf; rw [putCells_trunc hR hc ho new]; exact h1
      · rw [app_len (cellsFrom_list ho), (cellsFrom_get ho).1]; exact h2
    · cases h
  · rw [cellsK_eq] at h
    obtain ⟨old, h1, h2⟩ := oT_yes h
    rw [appK_eq, show (Pos.h) = key 0 from rfl, putK_eq] at h2
    obtain ⟨t, h3, h4⟩ := oT_yes h2
    rw [fN_eq, lenR_eq] at h4
    exact ⟨old, t, h1, h3, h4⟩

/-- A new row's tree, of what is appended. -/
def rowY (size n : Nat) (k : Tr AV → Nat → Tri) (t : Tr AO) (y : AV) : Tri :=
  AV.rec (motive := fun _ => Tri) (fun _ _ _ => .no) .no (fun _ => .no) (fun _ _ => .no) (fun l m => ifB (andB (Nat.ble n l) (Nat.beq size 1)) (bytesK n m (fun cs => putK cs .h .leaf (fun t => k t n))) .no) (fun _ _ => .no) .no
    (fun p off _ _ => ifB (Nat.beq (Nat.mul n size) 0) (k .leaf 0) (fN (fun c => getT p (onCells fun tr m _ => growT tr m off c .nil k) t) (Nat.mul n size)))
    (fun p off _ _ => ifB (Nat.beq (Nat.mul n size) 0) (k .leaf 0) (fN (fun c => getT p (onCells fun tr m _ => growT tr m off c .nil k) t) (Nat.mul n size)))
    (k .leaf 0) (fun _ => .no) .no (fun _ _ _ _ _ => .no) .no (fun _ _ _ => .no) .no (fun _ _ => .no) (fun _ _ => .no) .no (fun _ _ _ _ => .no) (fun _ => .no) y
theorem app_nil : ∀ {x : AV}, x.isList = true → x.app .nil = x := by
  intro x
  induction x with
  | nil => intro _; rfl
  | cons a r _ ih => intro h; show AV.cons a (r.app .nil) = _; rw [ih h]
  | _ => intro h; cases h
theorem bytesFrom_len (m : Nat) : ∀ (n i : Nat), (bytesFrom m i n).len = n := by
  intro n
  induction n with
  | zero => intro i; rfl
  | succ n ih => intro i; show (bytesFrom m (i + 1) n).len + 1 = _; rw [ih]
theorem rowY_yes {size n : Nat} {k : Tr AV → Nat → Tri} {nx : Pos} {t : Tr AO} {y : AV} (hI : RInv ⟨nx, t⟩) (h : rowY size n k t y = .yes) : ∃ cs tr, srcCells ⟨nx, t⟩ size n y = some cs ∧ treeOf cs = some tr ∧ k tr cs.len = .yes := by
  have sl : ∀ {p : Pos} {off : Nat}, ifB (Nat.beq (Nat.mul n size) 0) (k .leaf 0) (fN (fun c => getT p (onCells fun tr m _ => growT tr m off c .nil k) t) (Nat.mul n size)) = .yes →
      ∃ cs tr, (if n * size = 0 then some AV.nil else Heap.cellsAt ⟨nx, t⟩ p off (n * size)) = some cs ∧ treeOf cs = some tr ∧ k tr cs.len = .yes := by
    intro p off h
    rw [ifB_e, fN_eq] at h
    have e : Nat.mul n size = n * size := rfl
    rw [e] at h
    split at h
    · rename_i e; rw [if_pos e]; exact ⟨_, _, rfl, rfl, h⟩
    · rename_i e
      rw [if_neg e]
      rw [getT_eq] at h
      obtain ⟨o, h1, h2⟩ := oT_yes h
      cases o with
      | cells tr m op =>
        obtain ⟨old, t', h3, h4, h5⟩ := growT_yes (hI p tr m op h1) h2
        rw [app_nil (cellsFrom_list h3)] at h4 h5
        exact ⟨old, t', by simp only [Heap.cellsAt, Heap.get, h1, h3], h4, h5⟩
      | _ => cases h2
  cases y with
  | str l m =>
    obtain ⟨h1, h2⟩ := ifB_yes (show ifB (andB (Nat.ble n l) (Nat.beq size 1)) (bytesK n m (fun cs => putK cs .h .leaf (fun t => k t n))) .no = .yes from h)
    rw [andB_eq, Bool.and_eq_true] at h1
    rw [bytesK_eq, show (Pos.h) = key 0 from rfl, putK_eq] at h2
    obtain ⟨tr, h3, h4⟩ := oT_yes h2
    refine ⟨bytesFrom m 0 n, tr, ?_, h3, by rw [bytesFrom_len]; exact h4⟩
    show (if n ≤ l ∧ size = 1 then some (bytesFrom m 0 n) else none) = _
    rw [if_pos ⟨by simpa using h1.1, Nat.eq_of_beq_eq_true h1.2⟩]
  | slice p off a b => exact sl h
  | oslice p off a b => exact sl h
  | nilslice => exact ⟨.nil, .leaf, rfl, rfl, h⟩
  | _ => cases (show Tri.no = .yes from h)

def rowTK (op : Bool) (kp : Pos → KH) (nx : Pos) (t : Tr AO) (tr : Tr AV) (m : Nat) : Tri := newK (.cells tr m op) kp nx t
theorem rowTK_yes {op : Bool} {kp : Pos → KH} {nx : Pos} {t : Tr AO} {tr : Tr AV} {cs : AV} (ht : treeOf cs = some tr) (h : rowTK op kp nx t tr cs.len = .yes) : ∃ p H', Heap.row ⟨nx, t⟩ cs op = some (p, H') ∧ kp p H'.next H'.t = .yes := by
  unfold rowTK at h
  rw [newK_eq] at h
  exact ⟨_, _, by unfold Heap.row; rw [ht]; rfl, h⟩

/-- Appending: 'src' hands on the cells, 'row' a new row of them. -/
def appendK (size n : Nat) (src : (AV → Tri) → Tri) (row : (Tr AV → Nat → Tri) → Tri) (kv : KV) (nx : Pos) (t : Tr AO) (x : AV) : Tri :=
  onSl (ifB (Nat.beq n 0) (src fun _ => kv .nilslice nx t) (ifB (Nat.ble n most) (row (rowTK true (fun p => kv (.oslice p 0 n size)) nx t)) .no))
    (fun p off len cap => fN (fun s => ifB (Nat.ble s cap) (src fun new => ifB (Nat.beq (lenR new) 0) (kv (.slice p off s cap) nx t) (storeK p (Nat.add off (Nat.mul len size)) new (kv (.slice p off s cap)) nx t))
      (ifB (Nat.ble s most) (ifB (Nat.beq (Nat.mul len size) 0) (row (rowTK true (fun q => kv (.oslice q 0 s size)) nx t)) (src fun new => getT p (onCells fun tr m _ => growT tr m off (Nat.mul len size) new (rowTK true (fun q => kv (.oslice q 0 s size)) nx t)) t)) .no)) (Nat.add len n))
    (fun p off len s => ifB (Nat.beq s size) (src fun new => getT p (onCells fun tr m op => ifB op (fN (fun q => ifB (Nat.ble (Nat.add off (Nat.mul q size)) m)
        (ifB (Nat.beq (lenR new) 0) (kv (.oslice p off q size) nx t) (storeK p (Nat.add off (Nat.mul len size)) new (kv (.oslice p off q size)) nx t))
        (ifB (andB (Nat.ble q most) (Nat.ble (Nat.add off (Nat.mul len size)) m)) (growT tr m off (Nat.mul len size) new (fun tr' c => setT p .dead (fun t' => rowTK true (fun r => kv (.oslice r 0 q size)) nx t' tr' c) t)) .no)) (Nat.add len n)) .no) t) .no) x
theorem appendK_nil {size n : Nat} {src : (AV → Tri) → Tri} {row : (Tr AV → Nat → Tri) → Tri} {kv : KV} {nx : Pos} {t : Tr AO} : appendK size n src row kv nx t .nil = .no := rfl
theorem appendK_yes {size n : Nat} {src : (AV → Tri) → Tri} {row : (Tr AV → Nat → Tri) → Tri} {kv : KV} {nx : Pos} {t : Tr AO} {x : AV} {sc : Option AV} (hI : RInv ⟨nx, t⟩) (hs : ∀ k, src k = .yes → ∃ new, sc = some new ∧ k new = .yes) (hr : ∀ k, row k = .yes → ∃ new tr, sc = some new ∧ treeOf new = some tr ∧ k tr new.len = .yes)
    (h : appendK size n src row kv nx t x = .yes) : ∃ new v H', sc = some new ∧ appendC ⟨nx, t⟩ size n new x = some (v, H') ∧ kv v H'.next H'.t = .yes := by
  rcases onSl_yes h with ⟨rfl, h1⟩ | ⟨p, off, len, cap, rfl, h1⟩ | ⟨p, off, len, s, rfl, h1⟩
  · rw [ifB_e, ifB_le] at h1
    split at h1
    · rename_i e
      obtain ⟨new, hn, h1⟩ := hs _ h1
      refine ⟨new, .nilslice, ⟨nx, t⟩, hn, ?_, h1⟩
      unfold appendC
      simp only [e, if_true]
    · rename_i e
      split at h1
      · rename_i e2
        obtain ⟨new, tr, hn, ht, h2⟩ := hr _ h1
        obtain ⟨q, H', h3, h4⟩ := rowTK_yes ht h2
        refine ⟨new, _, H', hn, ?_, h4⟩
        unfold appendC
        simp only [e, if_false, e2, if_true, h3, Option.bind_eq_bind, Option.bind_some]
      · cases h1
  · rw [fN_eq, ifB_le, show Nat.add len n = len + n from rfl] at h1
    split at h1
    · rename_i e
      obtain ⟨new, hn, h1⟩ := hs _ h1
      rw [ifB_e, lenR_eq] at h1
      split at h1
      · rename_i e2
        refine ⟨new, _, ⟨nx, t⟩, hn, ?_, h1⟩
        unfold appendC
        simp only [e, if_true, e2]
      · rename_i e2
        rw [storeK_eq] at h1
        obtain ⟨H', h2, h3⟩ := oT_yes h1
        have h2 : Heap.store ⟨nx, t⟩ p (off + len * size) new = some H' := h2
        refine ⟨new, _, H', hn, ?_, h3⟩
        unfold appendC
        simp only [e, if_true, e2, if_false, h2, Option.map_some]
    · rename_i e
      rw [ifB_le] at h1
      split at h1
      · rename_i e2
        rw [ifB_e, show Nat.mul len size = len * size from rfl] at h1
        split at h1
        · rename_i e3
          obtain ⟨new, tr, hn, ht, h2⟩ := hr _ h1
          obtain ⟨q, H', h3, h4⟩ := rowTK_yes ht h2
          refine ⟨new, _, H', hn, ?_, h4⟩
          unfold appendC
          simp only [e, if_false, e2, if_true, firstCells, e3, Option.bind_eq_bind, Option.bind_some, AV.app, h3]
        · rename_i e3
          obtain ⟨new, hn, h1⟩ := hs _ h1
          rw [getT_eq] at h1
          obtain ⟨o, h2, h3⟩ := oT_yes h1
          cases o with
          | cells tr m op =>
            obtain ⟨old, t', h4, h5, h6⟩ := growT_yes (hI p tr m op h2) h3
            obtain ⟨q, H', h7, h8⟩ := rowTK_yes h5 h6
            have h4 : cellsFrom tr off (len * size) = some old := h4
            refine ⟨new, _, H', hn, ?_, h8⟩
            unfold appendC
            simp only [e, if_false, e2, if_true, firstCells, e3, Heap.cellsAt, Heap.get, h2, h4, Option.bind_eq_bind, Option.bind_some, h7]
          | _ => cases h3
      · cases h1
  · rw [ifB_e] at h1
    split at h1
    · rename_i e
      subst e
      obtain ⟨new, hn, h1⟩ := hs _ h1
      rw [getT_eq] at h1
      obtain ⟨o, h2, h3⟩ := oT_yes h1
      cases o with
      | cells tr m op =>
        obtain ⟨h4, h5⟩ := ifB_yes (show ifB op _ .no = .yes from h3)
        subst h4
        rw [fN_eq, ifB_le, show Nat.add len n = len + n from rfl] at h5
        have e1 : Nat.add off (Nat.mul (len + n) s) = off + (len + n) * s := rfl
        have e2 : Nat.add off (Nat.mul len s) = off + len * s := rfl
        rw [e1, e2] at h5
        split at h5
        · rename_i e
          rw [ifB_e, lenR_eq] at h5
          split at h5
          · rename_i e2
            refine ⟨new, _, ⟨nx, t⟩, hn, ?_, h5⟩
            unfold appendC
            simp only [ne_eq, not_true_eq_false, if_false, Heap.get, h2, e, if_true, e2]
          · rename_i e2
            rw [storeK_eq] at h5
            obtain ⟨H', h6, h7⟩ := oT_yes h5
            refine ⟨new, _, H', hn, ?_, h7⟩
            unfold appendC
            simp only [ne_eq, not_true_eq_false, if_false, Heap.get, h2, e, if_true, e2, h6, Option.map_some]
        · rename_i e
          obtain ⟨h6, h7⟩ := ifB_yes h5
          rw [andB_eq, Bool.and_eq_true] at h6
          have e3 : len + n ≤ most ∧ off + len * s ≤ m := ⟨by simpa using h6.1, by simpa using h6.2⟩
          obtain ⟨old, t', h8, h9, h10⟩ := growT_yes (hI p tr m true h2) h7
          rw [setT_eq] at h10
          obtain ⟨q, H', h11, h12⟩ := rowTK_yes h9 h10
          have h8 : cellsFrom tr off (len * s) = some old := h8
          have h11 : (Heap.put ⟨nx, t⟩ p .dead).row (old.app new) true = some (q, H') := h11
          refine ⟨new, _, H', hn, ?_, h12⟩
          unfold appendC
          simp only [ne_eq, not_true_eq_false, if_false, Heap.get, h2, e, e3, and_self, if_true, h8, h11, Option.bind_eq_bind, Option.bind_some]
      | _ => cases h3
    · cases h1

def opAppend (size : Nat) (gx gy : OG) : OpF := fun _ e f kv _ nx t => gx (fun x => gy (fun y => lenSK (fun n => appendK size n (fun k => srcK size n k t y) (fun k => rowY size n k t y) kv nx t x) y) e f) e f
theorem good_append (zz : AV) (size : Nat) (hx : OGood x gx) (hy : OGood y gy) : OpGood tbl (.append zz size x y) (opAppend size gx gy) := by
  refine .evI (fun _ _ _ _ _ => by simp only [CI.run]; cases CI.ev _ _ _ _ <;> rfl) fun call env F0 fr kv kp nx t hF hI h => ?_
  obtain ⟨v, h1, h2⟩ := hx _ _ _ _ hF h
  obtain ⟨u, h3, h4⟩ := hy.of hF rfl h1
  rw [lenSK_eq] at h3
  obtain ⟨n, h5, h6⟩ := oT_yes h3
  have hv : v ≠ .nil := by rintro rfl; cases (show Tri.no = .yes from h6)
  obtain ⟨new, r, H', h7, h9, h10⟩ := appendK_yes (sc := srcCells ⟨nx, t⟩ size n u) hI (fun k hk => by
    rw [srcK_eq _ _ _ nx] at hk
    exact oT_yes hk) (fun k hk => rowY_yes hI hk) h6
  refine ⟨r, H', ?_, h10⟩
  show (do appendA ⟨nx, t⟩ size (← x.ev env.toAV fr) (← y.ev env.toAV fr)) = _
  simp only [h2 hv, h4, Option.bind_eq_bind, Option.bind_some, appendA, h5, h7, h9]

def opAppendZ (zz : AV) (size : Nat) (gx gy : OG) : OpF := fun _ e f kv _ nx t => gy (onNat fun n => ifB (andB (Nat.ble n most) (Nat.beq (lenR zz) size)) (gx (fun x => appendK size n (replK zz n) (fun k => replK zz n fun cs => putK cs .h .leaf (fun t => fN (fun m => k t m) (lenR cs))) kv nx t x) e f) .no) e f
theorem good_appendZ (zz : AV) (size : Nat) (hx : OGood x gx) (hy : OGood y gy) : OpGood tbl (.appendZ zz size x y) (opAppendZ zz size gx gy) := by
  refine .evI (fun _ _ _ _ _ => by simp only [CI.run]; cases CI.ev _ _ _ _ <;> rfl) fun call env F0 fr kv kp nx t hF hI h => ?_
  obtain ⟨c, n, h1, h2⟩ := hy.nat hF h
  obtain ⟨h3, h4⟩ := ifB_yes h1
  rw [andB_eq, Bool.and_eq_true, lenR_eq] at h3
  obtain ⟨v, h5, h6⟩ := hx.of hF rfl h4
  obtain ⟨new, r, H', h7, h8, h9⟩ := appendK_yes (sc := some (repl zz n)) hI (fun k hk => by rw [replK_eq] at hk; exact ⟨_, rfl, hk⟩) (fun k hk => by
    rw [replK_eq, show (Pos.h) = key 0 from rfl, putK_eq] at hk
    obtain ⟨tr, h1, h2⟩ := oT_yes hk
    rw [fN_eq, lenR_eq] at h2
    exact ⟨_, tr, rfl, h1, h2⟩) h5
  cases h7
  refine ⟨r, H', ?_, h9⟩
  have e1 : n ≤ most := by simpa using h3.1
  have e2 := Nat.eq_of_beq_eq_true h3.2
  simp only [CI.ev, h2, h6, Option.bind_eq_bind, Option.bind_some, asNat]
  rw [if_pos ⟨e1, e2⟩]
  exact h8

def putAtK (cs : AV) (kh : KH) (nx : Pos) (t : Tr AO) (dst : AV) : Tri :=
  ifB (Nat.beq (lenR cs) 0) (onSl (kh nx t) (fun _ _ _ _ => kh nx t) (fun _ _ _ _ => kh nx t) dst) (onSl .no (fun p off _ _ => storeK p off cs kh nx t) (fun p off n _ => ifB (Nat.beq n 0) .no (storeK p off cs kh nx t)) dst)
theorem putAtK_yes {cs : AV} {kh : KH} {nx : Pos} {t : Tr AO} {dst : AV} (h : putAtK cs kh nx t dst = .yes) : ∃ H', putAt ⟨nx, t⟩ dst cs = some H' ∧ kh H'.next H'.t = .yes := by
  unfold putAtK at h
  rw [ifB_e, lenR_eq] at h
  unfold putAt
  split at h
  · rename_i e
    rw [if_pos e]
    rcases onSl_yes h with ⟨rfl, h1⟩ | ⟨p, off, len, cap, rfl, h1⟩ | ⟨p, off, len, s, rfl, h1⟩ <;> exact ⟨_, rfl, h1⟩
  · rename_i e
    rw [if_neg e]
    rcases onSl_yes h with ⟨rfl, h1⟩ | ⟨p, off, len, cap, rfl, h1⟩ | ⟨p, off, len, s, rfl, h1⟩
    · cases h1
    · rw [storeK_eq] at h1
      obtain ⟨H', h2, h3⟩ := oT_yes h1
      exact ⟨H', h2, h3⟩
    · rw [ifB_e] at h1
      split at h1
      · cases h1
      · rename_i e2
        rw [storeK_eq] at h1
        obtain ⟨H', h2, h3⟩ := oT_yes h1
        exact ⟨H', by simp only [e2, if_false]; exact h2, h3⟩
theorem putAtK_nil {cs : AV} {kh : KH} {nx : Pos} {t : Tr AO} : putAtK cs kh nx t .nil = .no := by
  unfold putAtK
  rw [ifB_eq]
  split <;> rfl
def opClear (zz : AV) (size : Nat) (gx : OG) : OpF := fun _ e f kv _ nx t => gx (fun d => lenSK (fun n => ifB (Nat.beq (lenR zz) size) (replK zz n fun cs => putAtK cs (kv undefA) nx t d) .no) d) e f
theorem good_clear (zz : AV) (size : Nat) (hx : OGood x gx) : OpGood tbl (.clear zz size x) (opClear zz size gx) := by
  refine .ev (fun _ _ _ _ _ => by simp only [CI.run]; cases CI.ev _ _ _ _ <;> rfl) fun call env F0 fr kv kp nx t hF h => ?_
  obtain ⟨d, h1, h2⟩ := hx.of hF rfl h
  rw [lenSK_eq] at h1
  obtain ⟨n, h3, h4⟩ := oT_yes h1
  obtain ⟨h5, h6⟩ := ifB_yes h4
  rw [lenR_eq] at h5
  have e := Nat.eq_of_beq_eq_true h5
  rw [replK_eq] at h6
  obtain ⟨H', h7, h8⟩ := putAtK_yes h6
  exact ⟨undefA, H', by simp [CI.ev, h2, h3, e, h7], h8⟩
def minK (n m : Nat) : Nat := Bool.rec (motive := fun _ => Nat) m n (Nat.ble n m)
theorem minK_eq (n m : Nat) : minK n m = Nat.min n m := by
  unfold minK
  cases h : Nat.ble n m with
  | true => exact (Nat.min_eq_left (by simpa using h)).symm
  | false =>
    have h : m < n := by rw [← Bool.not_eq_true] at h; simpa using h
    exact (Nat.min_eq_right (Nat.le_of_lt h)).symm
def opCopy (size : Nat) (gx gy : OG) : OpF := fun _ e f kv _ nx t => gx (fun d => gy (fun s => lenSK (fun n => lenSK (fun m => fN (fun q => srcK size q (fun cs => putAtK cs (kv (.int 3 (Int.ofNat q))) nx t d) t s) (minK n m)) d) s) e f) e f
theorem good_copy (size : Nat) (hx : OGood x gx) (hy : OGood y gy) : OpGood tbl (.copy size x y) (opCopy size gx gy) := by
  refine .ev (fun _ _ _ _ _ => by simp only [CI.run]; cases CI.ev _ _ _ _ <;> rfl) fun call env F0 fr kv kp nx t hF h => ?_
  obtain ⟨d, h1, h2⟩ := hx _ _ _ _ hF h
  obtain ⟨s, h3, h4⟩ := hy.of hF rfl h1
  rw [lenSK_eq] at h3
  obtain ⟨n, h5, h6⟩ := oT_yes h3
  rw [lenSK_eq] at h6
  obtain ⟨m, h7, h8⟩ := oT_yes h6
  have hd : d ≠ .nil := by rintro rfl; cases h7
  rw [fN_eq, minK_eq, srcK_eq _ _ _ nx] at h8
  obtain ⟨cs, h9, h10⟩ := oT_yes h8
  obtain ⟨H', h11, h12⟩ := putAtK_yes h10
  exact ⟨.int 3 (Int.ofNat (Nat.min n m)), H', by simp only [CI.ev, h2 hd, h4, h5, h7, h9, h11, Option.bind_eq_bind, Option.bind_some]; rfl, h12⟩

/-! Lengths. -/
def opLenStr (gx : OG) : OpF := fun _ e f kv _ nx t => gx (onStr fun l _ => kv (.int 3 (Int.ofNat l)) nx t) e f
theorem good_lenStr (hx : OGood x gx) : OpGood tbl (.lenStr x) (opLenStr gx) := by
  refine .ev (fun _ _ _ _ _ => by simp only [CI.run]; cases CI.ev _ _ _ _ <;> rfl) fun call env F0 fr kv kp nx t hF h => ?_
  obtain ⟨l, n, h1, h2⟩ := hx.str hF h
  exact ⟨.int 3 (Int.ofNat l), ⟨nx, t⟩, by simp [CI.ev, h2], h1⟩
def opLenSl (gx : OG) : OpF := fun _ e f kv _ nx t => gx (lenK fun n => kv (.int 3 (Int.ofNat n)) nx t) e f
theorem good_lenSl (hx : OGood x gx) : OpGood tbl (.lenSl x) (opLenSl gx) := by
  refine .ev (fun _ _ _ _ _ => by simp only [CI.run]; cases CI.ev _ _ _ _ <;> rfl) fun call env F0 fr kv kp nx t hF h => ?_
  obtain ⟨v, h1, h2⟩ := hx.of hF rfl h
  rcases onSl_yes h1 with ⟨rfl, h⟩ | ⟨p, a, b, c, rfl, h⟩ | ⟨p, a, b, c, rfl, h⟩
  · exact ⟨.int 3 (Int.ofNat 0), ⟨nx, t⟩, by simp [CI.ev, h2], h⟩
  · exact ⟨.int 3 (Int.ofNat b), ⟨nx, t⟩, by simp [CI.ev, h2], h⟩
  · exact ⟨.int 3 (Int.ofNat b), ⟨nx, t⟩, by simp [CI.ev, h2], h⟩
def opLenMap (gx : OG) : OpF := fun _ e f kv _ nx t => gx (onMap (kv (.int 3 0) nx t) fun p => getT p (onMapO fun es _ => fN (fun n => kv (.int 3 (Int.ofNat n)) nx t) (sizeM es)) t) e f
theorem good_lenMap (hx : OGood x gx) : OpGood tbl (.lenMap x) (opLenMap gx) := by
  refine .ev (fun _ _ _ _ _ => by simp only [CI.run]; cases CI.ev _ _ _ _ <;> rfl) fun call env F0 fr kv kp nx t hF h => ?_
  obtain ⟨v, h1, h2⟩ := hx.of hF rfl h
  rcases onMap_yes h1 with ⟨rfl, h⟩ | ⟨p, rfl, h⟩
  · exact ⟨.int 3 0, ⟨nx, t⟩, by simp [CI.ev, h2], h⟩
  · rw [getT_eq] at h
    obtain ⟨o, h3, h4⟩ := oT_yes h
    cases o with
    | map es c =>
      have h4 : fN (fun n => kv (.int 3 (Int.ofNat n)) nx t) (sizeM es) = .yes := h4
      rw [fN_eq, sizeM_eq] at h4
      exact ⟨.int 3 (Int.ofNat es.size), ⟨nx, t⟩, by simp [CI.ev, h2, Heap.get, h3], h4⟩
    | _ => cases h4
def opCapSl (gx : OG) : OpF := fun _ e f kv _ nx t => gx (onSl (kv (.int 3 0) nx t) (fun _ _ _ c => kv (.int 3 (Int.ofNat c)) nx t) (fun _ _ _ _ => .no)) e f
theorem good_capSl (hx : OGood x gx) : OpGood tbl (.capSl x) (opCapSl gx) := by
  refine .ev (fun _ _ _ _ _ => by simp only [CI.run]; cases CI.ev _ _ _ _ <;> rfl) fun call env F0 fr kv kp nx t hF h => ?_
  obtain ⟨v, h1, h2⟩ := hx.of hF rfl h
  rcases onSl_yes h1 with ⟨rfl, h⟩ | ⟨p, a, b, c, rfl, h⟩ | ⟨p, a, b, c, rfl, h⟩
  · exact ⟨.int 3 0, ⟨nx, t⟩, by simp [CI.ev, h2], h⟩
  · exact ⟨.int 3 (Int.ofNat c), ⟨nx, t⟩, by simp [CI.ev, h2], h⟩
  · cases h
def opLit (v : AV) : OpF := fun _ _ _ kv _ nx t => kv v nx t
theorem good_lit (v : AV) : OpGood tbl (.lit v) (opLit v) :=
  .ev (fun _ _ _ _ _ => by simp only [CI.run]; cases CI.ev _ _ _ _ <;> rfl) fun _ _ _ _ _ _ nx t _ h => ⟨v, ⟨nx, t⟩, rfl, h⟩
def pickI (b : Bool) (x y : Int) : Int := Bool.rec (motive := fun _ => Int) y x b
def opMin (gx gy : OG) : OpF := fun _ e f kv _ nx t => gx (onInt fun c a => gy (onInt fun _ b => ifB (ltI b a) (kv (.int c b) nx t) (kv (.int c a) nx t)) e f) e f
theorem good_min (hx : OGood x gx) (hy : OGood y gy) : OpGood tbl (.min x y) (opMin gx gy) := by
  refine .ev (fun _ _ _ _ _ => by simp only [CI.run]; cases CI.ev _ _ _ _ <;> rfl) fun call env F0 fr kv kp nx t hF h => ?_
  obtain ⟨c, a, h1, h2⟩ := hx.int hF h
  obtain ⟨d, b, h3, h4⟩ := hy.int hF h1
  rw [ifB_eq, ltI_eq] at h3
  refine ⟨.int c (if b < a then b else a), ⟨nx, t⟩, by simp [CI.ev, h2, h4, asInt], ?_⟩
  by_cases e : b < a
  · rw [if_pos (by simpa using e)] at h3; rw [if_pos e]; exact h3
  · rw [if_neg (by simpa using e)] at h3; rw [if_neg e]; exact h3
def opMax (gx gy : OG) : OpF := fun _ e f kv _ nx t => gx (onInt fun c a => gy (onInt fun _ b => ifB (ltI a b) (kv (.int c b) nx t) (kv (.int c a) nx t)) e f) e f
theorem good_max (hx : OGood x gx) (hy : OGood y gy) : OpGood tbl (.max x y) (opMax gx gy) := by
  refine .ev (fun _ _ _ _ _ => by simp only [CI.run]; cases CI.ev _ _ _ _ <;> rfl) fun call env F0 fr kv kp nx t hF h => ?_
  obtain ⟨c, a, h1, h2⟩ := hx.int hF h
  obtain ⟨d, b, h3, h4⟩ := hy.int hF h1
  rw [ifB_eq, ltI_eq] at h3
  refine ⟨.int c (if b > a then b else a), ⟨nx, t⟩, by simp [CI.ev, h2, h4, asInt], ?_⟩
  by_cases e : a < b
  · rw [if_pos (by simpa using e)] at h3; rw [if_pos (show b > a from e)]; exact h3
  · rw [if_neg (by simpa using e)] at h3; rw [if_neg (show ¬ b > a from e)]; exact h3

/-! Calls, panics. -/
def opCallF (f : Nat) (g : OG) : OpF := fun call e fr kv kp nx t => g (fun as => call (Nat.succ f) as kv kp nx t) e fr
theorem good_callF (f : Nat) {xs : Opds} {g : OG} (hg : OsGood xs g) : OpGood tbl (.callF f xs) (opCallF f g) := by
  intro Y call hc env F0 fr kv kp nx t hF hI h
  obtain ⟨as, h1, h2⟩ := hg _ _ _ _ hF h
  obtain ⟨n, r, H', h3, h4⟩ := hc.fn _ _ _ _ _ _ hI h1
  exact ⟨n, r, H', by simp [CI.run, callee, h2, h3], h4⟩
/-- A function, or a round. -/
def onFunY (f : Fn → AV → AV → Tri) (y : Pos → Tri) (v : AV) : Tri :=
  AV.rec (motive := fun _ => Tri) (fun _ _ _ => .no) .no (fun _ => .no) (fun _ _ => .no) (fun _ _ => .no) (fun _ _ => .no) .no (fun _ _ _ _ => .no) (fun _ _ _ _ => .no) .no (fun _ => .no) .no (fun g a b _ _ => f g a b) .no (fun _ _ _ => .no) .no (fun _ _ => .no) (fun _ _ => .no) .no (fun _ _ _ _ => .no) y v
theorem onFunY_yes {f : Fn → AV → AV → Tri} {y : Pos → Tri} {v : AV} (h : onFunY f y v = .yes) : (∃ g a b, v = .func g a b ∧ f g a b = .yes) ∨ ∃ p, v = .yield p ∧ y p = .yes := by
  cases v <;> first | exact .inl ⟨_, _, _, rfl, h⟩ | exact .inr ⟨_, rfl, h⟩ | cases (show Tri.no = .yes from h)
def opCallV (gx g : OG) : OpF := fun call e fr kv kp nx t => gx (onFunY (fun fn a b => onFn (fun f => g (fun as => appK as b (fun r => appK a r (fun as => call (Nat.succ f) as kv kp nx t))) e fr) fn) (fun p => g (fun as => call Nat.zero (.cons (.yield p) as) kv kp nx t) e fr)) e fr
theorem good_callV {xs : Opds} {g : OG} (hx : OGood x gx) (hg : OsGood xs g) : OpGood tbl (.callV x xs) (opCallV gx g) := by
  intro Y call hc env F0 fr kv kp nx t hF hI h
  obtain ⟨v, h1, h2⟩ := hx.of hF rfl h
  rcases onFunY_yes h1 with ⟨fn, a, b, rfl, h3⟩ | ⟨p, rfl, h3⟩
  · obtain ⟨f, rfl, h4⟩ := onFn_yes h3
    obtain ⟨as, h5, h6⟩ := hg _ _ _ _ hF h4
    rw [appK_eq, appK_eq] at h5
    obtain ⟨n, r, H', h7, h8⟩ := hc.fn _ _ _ _ _ _ hI h5
    exact ⟨n, r, H', by simp [CI.run, callee, h2, h6, h7], h8⟩
  · obtain ⟨as, h5, h6⟩ := hg _ _ _ _ hF h3
    obtain ⟨n, r, H', h7, h8⟩ := hc.yl _ _ _ _ _ _ hI h5
    exact ⟨n, r, H', by simp only [CI.run, h2, h6]; exact h7, h8⟩
/-! Maps of pointers; the place of a byte. -/
def ptrIsK (tr : Tr AO) (p : Pos) (off : Nat) (y : AV) (a b : Tri) : Tri := onPtr (fun q u => eqPosK p q (ifB (Nat.beq off u) a b) (closedK q b tr)) y
theorem ptrIsK_eq (nx : Pos) (tr : Tr AO) (p : Pos) (off : Nat) (y : AV) (a b : Tri) : ptrIsK tr p off y a b = oT (fun x => ifB x a b) (ptrIs ⟨nx, tr⟩ p off y) := by
  cases y with
  | ptr q u =>
    show eqPosK p q (ifB (Nat.beq off u) a b) (closedK q b tr) = oT (fun x => ifB x a b) (if p = q then some (off == u) else if Heap.closed ⟨nx, tr⟩ q then some false else none)
    rw [eqPosK_eq, closedK_eq _ _ nx]
    by_cases h : p = q
    · rw [if_pos h, if_pos h]
      have e : (off == u) = Nat.beq off u := by rw [Bool.eq_iff_iff, beq_iff_eq, Nat.beq_eq]
      rw [e]; rfl
    · rw [if_neg h, if_neg h]; cases Heap.closed ⟨nx, tr⟩ q <;> rfl
  | _ => rfl
def findBK (tr : Tr AO) (p : Pos) (off : Nat) (m : ME) (kn : Tri) (ks : AV → Tri) : Tri := ME.rec (motive := fun _ => Tri) kn (fun y v _ _ ih => ptrIsK tr p off y (ks v) ih) m
theorem findBK_eq (nx : Pos) (tr : Tr AO) (p : Pos) (off : Nat) (m : ME) (k : Option AV → Tri) : findBK tr p off m (k none) (fun v => k (some v)) = oT k (m.findBy (ptrIs ⟨nx, tr⟩ p off)) := by
  induction m with
  | nil => rfl
  | cons y v b r ih =>
    show ptrIsK tr p off y (k (some v)) (findBK tr p off r (k none) (fun v => k (some v))) = _
    rw [ptrIsK_eq nx]
    simp only [ME.findBy]
    cases ptrIs ⟨nx, tr⟩ p off y with
    | none => rfl
    | some e => cases e with
      | true => rfl
      | false => exact ih
def putBK (tr : Tr AO) (p : Pos) (off : Nat) (x v : AV) (clock : Nat) (m : ME) : (ME → Bool → Tri) → Tri :=
  ME.rec (motive := fun _ => (ME → Bool → Tri) → Tri) (fun k => k (.cons x v clock .nil) true)
    (fun y u b r ih k => ptrIsK tr p off y (k (.cons x v b r) false) (ih (fun m fresh => k (.cons y u b m) fresh))) m
theorem putBK_eq (nx : Pos) (tr : Tr AO) (p : Pos) (off : Nat) (x v : AV) (clock : Nat) (m : ME) : ∀ k, putBK tr p off x v clock m k = oT (fun r => k r.1 r.2) (m.putBy (ptrIs ⟨nx, tr⟩ p off) x v clock) := by
  induction m with
  | nil => intro k; rfl
  | cons y u b r ih =>
    intro k
    show ptrIsK tr p off y (k (.cons x v b r) false) (putBK tr p off x v clock r (fun m fresh => k (.cons y u b m) fresh)) = _
    rw [ptrIsK_eq nx]
    simp only [ME.putBy]
    cases ptrIs ⟨nx, tr⟩ p off y with
    | none => rfl
    | some q => cases q with
      | true => rfl
      | false =>
        show putBK tr p off x v clock r (fun m fresh => k (.cons y u b m) fresh) = _
        rw [ih]
        cases r.putBy (ptrIs ⟨nx, tr⟩ p off) x v clock <;> rfl
def lookBK (tr : Tr AO) (p : Pos) (off : Nat) (kn : Tri) (ks : AV → Tri) (m : AV) : Tri := onMap kn (fun q => getT q (onMapO fun es _ => findBK tr p off es kn ks) tr) m
theorem lookBK_eq (nx : Pos) (t : Tr AO) (p : Pos) (off : Nat) (k : Option AV → Tri) (m : AV) : lookBK t p off (k none) (fun v => k (some v)) m = oT k (mapLookP ⟨nx, t⟩ p off m) := by
  cases m with
  | map q =>
    show getT q (onMapO fun es _ => findBK t p off es (k none) (fun v => k (some v))) t = oT k (match t.get q with | some (.map es _) => es.findBy (ptrIs ⟨nx, t⟩ p off) | _ => none)
    rw [getT_eq]
    cases t.get q with
    | none => rfl
    | some o => cases o with
      | map es c => exact findBK_eq nx t p off es k
      | _ => rfl
  | _ => rfl
def opLookupP (z : AV) (ok : Bool) (gm gx : OG) : OpF := fun _ en f kv _ nx t => gx (onPtr fun p off => closedK p (gm (fun m => lookBK t p off (kv (lookRes z ok none) nx t) (fun v => kv (lookRes z ok (some v)) nx t) m) en f) t) en f
theorem good_lookupP (z : AV) (ok : Bool) (hm : OGood x gx) (hy : OGood y gy) : OpGood tbl (.lookupP z ok x y) (opLookupP z ok gx gy) := by
  refine .ev (fun _ _ _ _ _ => by simp only [CI.run]; cases CI.ev _ _ _ _ <;> rfl) fun call env F0 fr kv kp nx t hF h => ?_
  obtain ⟨p, off, h1, h2⟩ := hy.ptr hF h
  rw [closedK_eq _ _ nx] at h1
  split at h1
  · rename_i hcl
    obtain ⟨m, h5, h6⟩ := hm.of hF rfl h1
    rw [lookBK_eq nx t p off (fun r => kv (lookRes z ok r) nx t) m] at h5
    obtain ⟨r, h7, h8⟩ := oT_yes h5
    exact ⟨_, ⟨nx, t⟩, by simp [CI.ev, h2, h6, hcl, h7], h8⟩
  · cases h1
def opUpdateP (gm gx gv : OG) : OpF := fun _ en f kv _ nx t => gx (onPtr fun p off => closedK p (gv (fun v => chk (gm (onMapP fun q => getT q (onMapO fun es clock => putBK t p off (.ptr p off) v clock es fun es' fresh => fN (fun c => setT q (.map es' c) (fun t' => kv undefA nx t') t) (Bool.rec (motive := fun _ => Nat) clock (Nat.succ clock) fresh)) t) en f) v) en f) t) en f
theorem good_updateP (hm : OGood x gx) (hy : OGood y gy) (hz : OGood z gz) : OpGood tbl (.updateP x y z) (opUpdateP gx gy gz) := by
  refine .ev (fun _ _ _ _ _ => by simp only [CI.run]; cases CI.ev _ _ _ _ <;> rfl) fun call env F0 fr kv kp nx t hF h => ?_
  obtain ⟨p, off, h1, h2⟩ := hy.ptr hF h
  rw [closedK_eq _ _ nx] at h1
  split at h1
  · rename_i hcl
    obtain ⟨v, _, h5, h6⟩ := hz.any hF h1
    obtain ⟨m, h7, h8⟩ := hm.of hF rfl h5
    rcases onMap_yes h7 with ⟨_, h⟩ | ⟨q, rfl, h9⟩
    · cases h
    rw [getT_eq] at h9
    obtain ⟨o, h10, h11⟩ := oT_yes h9
    cases o with
    | map es clock =>
      have h11 : putBK t p off (.ptr p off) v clock es (fun es' fresh => fN (fun c => setT q (.map es' c) (fun t' => kv undefA nx t') t) (Bool.rec (motive := fun _ => Nat) clock (Nat.succ clock) fresh)) = .yes := h11
      rw [putBK_eq nx] at h11
      obtain ⟨⟨es', fresh⟩, h12, h13⟩ := oT_yes h11
      rw [fN_eq, setT_eq] at h13
      refine ⟨undefA, ⟨nx, t.set q (.map es' (if fresh then clock + 1 else clock))⟩, ?_, ?_⟩
      · simp only [CI.ev, h2, h6, h8, hcl, Option.bind_eq_bind, Option.bind_some, if_true, mapPutP, Heap.get, h10, h12, Option.map_some, Heap.put]
      · cases fresh <;> exact h13
    | _ => cases h11
  · cases h1
def opIdxByte (gx gy : OG) : OpF := fun _ e f kv _ nx t => gx (onStr fun l n => gy (fun c => slowV kv nx t (match c with | .int 4 (.ofNat b) => if b < 256 then some (.int 3 (idxByteF n b l 0)) else none | _ => none)) e f) e f
theorem good_idxByte (hx : OGood x gx) (hy : OGood y gy) : OpGood tbl (.idxByte x y) (opIdxByte gx gy) := by
  refine .ev (fun _ _ _ _ _ => by simp only [CI.run]; cases CI.ev _ _ _ _ <;> rfl) fun call env F0 fr kv kp nx t hF h => ?_
  obtain ⟨l, n, h1, h2⟩ := hx.str hF h
  obtain ⟨c, h3, h4⟩ := hy.of hF rfl h1
  obtain ⟨v, h5, h6⟩ := slowV_yes h3
  refine ⟨v, ⟨nx, t⟩, ?_, h6⟩
  simp only [CI.ev, h2, h4, Option.bind_eq_bind, Option.bind_some]
  split at h5
  · split at h5
    · rename_i hb
      cases h5
      simp only [if_pos hb]
    · cases h5
  · cases h5
def opDefer (gx g : OG) (gh : (AV → Tri) → F → Tri) : OpF := fun _ e fr kv _ nx t => gx (onFunc .no fun fn a b => onFn (fun f => g (fun as => appK as b (fun r => appK a r (fun as => gh (fun L => kv (.cons (.iface f as) L) nx t) fr))) e fr) fn) e fr
theorem good_defer {xs : Opds} {g : OG} {gh : (AV → Tri) → F → Tri} (hx : OGood x gx) (hg : OsGood xs g) (hh : ∀ k (F0 : F) fr, RF F0 fr → gh k F0 = .yes → k ((fr.get .h).getD .nil) = .yes) : OpGood tbl (.defer x xs) (opDefer gx g gh) := by
  intro Y call hc env F0 fr kv kp nx t hF hI h
  obtain ⟨v, h1, h2⟩ := hx.of hF rfl h
  rcases onFunc_yes h1 with ⟨_, h3⟩ | ⟨fn, a, b, rfl, h3⟩
  · cases h3
  obtain ⟨f, rfl, h4⟩ := onFn_yes h3
  obtain ⟨as, h5, h6⟩ := hg _ _ _ _ hF h4
  rw [appK_eq, appK_eq] at h5
  have h7 := hh _ F0 fr hF h5
  exact ⟨0, .ret (.cons (.iface f (a.app (as.app b))) ((fr.get .h).getD .nil)), ⟨nx, t⟩, by simp only [CI.run, callee, h2, h6, Option.bind_eq_bind, Option.bind_some], h7⟩
def opPanic (gx : OG) : OpF := fun _ e fr _ kp nx t => gx (onIface .no fun u v => kp (.iface u v) nx t) e fr
theorem good_panic (hx : OGood x gx) : OpGood tbl (.panic x) (opPanic gx) := by
  intro Y call hc env F0 fr kv kp nx t hF _ h
  obtain ⟨v, h1, h2⟩ := hx.of hF rfl h
  rcases onIface_yes h1 with ⟨_, h⟩ | ⟨u, v, rfl, h3⟩
  · cases h
  exact ⟨0, .pan (.iface u v), ⟨nx, t⟩, by simp [CI.run, h2], h3⟩
end
end
end Go.Dx.K
