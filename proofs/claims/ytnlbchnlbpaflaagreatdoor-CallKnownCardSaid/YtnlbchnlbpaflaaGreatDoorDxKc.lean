/-
  The twin for the kernel, third part: operations.
-/
import Derived.Test.YtnlbchnlbpaflaaGreatDoorDxKb
import Derived.Test.YtnlbchnlbpaflaaGreatDoorDxLe
import Derived.Test.YtnlbchnlbpaflaaGreatDoorDxKi
set_option linter.unusedSimpArgs false
set_option linter.unusedVariables false
set_option linter.unusedSectionVars false
namespace Go.Dx.K
open Go.Dx

noncomputable section

abbrev KV := AV → KH
abbrev Call := Nat → AV → KV → KV → KH
abbrev OpF := Call → Env → F → KV → KV → KH
abbrev OG := (AV → Tri) → Env → F → Tri

/-- What a call's end hands on. -/
def resK (kr kp : KV) (r : CR) (H : Heap) : Tri := match r with
  | .ret v => kr v H.next H.t
  | .pan v => kp v H.next H.t

/-- What a round is called by, at a fuel. -/
abbrev YT := Nat → Pos → AV → Heap → Option (CR × Heap)
/-- A call's number: 0 is a round (its yield stands ahead of its arguments), or a deferred call (the function and its arguments, what was thrown); f + 1 the function f. -/
structure CallGood (tbl : Nat → Option CFunc) (Y : YT) (call : Call) : Prop where
  fn : ∀ f args kr kp nx t, RInv ⟨nx, t⟩ → call (Nat.succ f) args kr kp nx t = .yes → ∃ n r H', callN tbl n f args ⟨nx, t⟩ = some (r, H') ∧ resK kr kp r H' = .yes
  yl : ∀ p args kr kp nx t, RInv ⟨nx, t⟩ → call Nat.zero (.cons (.yield p) args) kr kp nx t = .yes → ∃ n r H', Y n p args ⟨nx, t⟩ = some (r, H') ∧ resK kr kp r H' = .yes
  df : ∀ f as m kr kp nx t, RInv ⟨nx, t⟩ → call Nat.zero (.cons (.iface f as) (.cons m .nil)) kr kp nx t = .yes → ∃ n m' H', doCallD tbl (run tbl n) f as m ⟨nx, t⟩ = some (m', H') ∧ kr m' H'.next H'.t = .yes

def OpGood (tbl : Nat → Option CFunc) (ci : CI) (f : OpF) : Prop :=
  ∀ Y call, CallGood tbl Y call → ∀ env (F0 : F) fr kv kp nx t, RF F0 fr → RInv ⟨nx, t⟩ → f call env F0 kv kp nx t = .yes → ∃ n r H', CI.run (callN tbl n) (Y n) env.toAV fr ⟨nx, t⟩ ci = some (r, H') ∧ resK kv kp r H' = .yes

/-- Of an operand. -/
def OGood (x : Opd) (g : OG) : Prop := ∀ k env (F0 : F) fr, RF F0 fr → g k env F0 = .yes → ∃ v, k v = .yes ∧ (v ≠ .nil → x.ev env.toAV fr = some v)

def dOpd {β : Type} (x : Opd) (no : β) (K : OG → β) : β :=
  Opd.rec (motive := fun _ => β) (fun j => eGet j fun g => K fun k e _ => g k e) (fun p => fGet p no fun g => K fun k _ f => g k f) (fun v => K fun k _ _ => k v) x
theorem dOpd_eq {β : Type} (x : Opd) (no : β) (K : OG → β) : dOpd x no K = no ∨ ∃ g, dOpd x no K = K g ∧ OGood x g := by
  cases x with
  | loc j =>
    obtain ⟨g, h1, h2⟩ := eGet_eq j (fun g => K fun k e _ => g k e)
    refine .inr ⟨_, h1, fun k env F0 fr _ h => ?_⟩
    rw [h2] at h
    obtain ⟨v, h3, h4⟩ := oT_yes h
    exact ⟨v, h4, fun _ => h3⟩
  | var p =>
    rcases fGet_eq p no (fun g => K fun k _ f => g k f) with h | ⟨g, h1, h2⟩
    · exact .inl h
    · refine .inr ⟨_, h1, fun k env F0 fr hF h => ?_⟩
      obtain ⟨f, rfl, hf⟩ := hF
      rw [h2] at h
      exact ⟨_, h, fun hne => hf.1 p hne⟩
  | lit v => exact .inr ⟨_, rfl, fun k env F0 fr _ h => ⟨v, h, fun _ => rfl⟩⟩

/-- Of operands. -/
def OsGood (xs : Opds) (g : OG) : Prop := ∀ k env (F0 : F) fr, RF F0 fr → g k env F0 = .yes → ∃ vs, k vs = .yes ∧ xs.ev env.toAV fr = some vs
def dOpds {β : Type} (xs : Opds) (no : β) : (OG → β) → β :=
  Opds.rec (motive := fun _ => (OG → β) → β) (fun K => K fun k _ _ => k .nil) (fun x _ ih K => dOpd x no fun g => ih fun gs => K fun k e f => g (fun v => chk (gs (fun vs => k (.cons v vs)) e f) v) e f) xs
theorem dOpds_eq {β : Type} (xs : Opds) (no : β) : ∀ (K : OG → β), dOpds xs no K = no ∨ ∃ g, dOpds xs no K = K g ∧ OsGood xs g := by
  induction xs with
  | nil => intro K; exact .inr ⟨_, rfl, fun k env F0 fr _ h => ⟨.nil, h, rfl⟩⟩
  | cons x r ih =>
    intro K
    show (dOpd x no fun g => dOpds r no fun gs => K fun k e f => g (fun v => chk (gs (fun vs => k (.cons v vs)) e f) v) e f) = no ∨ ∃ g, (dOpd x no fun g => dOpds r no fun gs => K fun k e f => g (fun v => chk (gs (fun vs => k (.cons v vs)) e f) v) e f) = K g ∧ _
    rcases dOpd_eq x no (fun g => dOpds r no fun gs => K fun k e f => g (fun v => chk (gs (fun vs => k (.cons v vs)) e f) v) e f) with h | ⟨g, h, hg⟩
    · exact .inl h
    rw [h]
    rcases ih (fun gs => K fun k e f => g (fun v => chk (gs (fun vs => k (.cons v vs)) e f) v) e f) with h | ⟨gs, h, hgs⟩
    · exact .inl h
    rw [h]
    refine .inr ⟨_, rfl, fun k env F0 fr hF h => ?_⟩
    obtain ⟨v, h1, h2⟩ := hg _ _ _ _ hF h
    obtain ⟨hn, h1⟩ := chk_yes h1
    obtain ⟨vs, h3, h4⟩ := hgs _ _ _ _ hF h1
    exact ⟨_, h3, by simp [Opds.ev, h2 hn, h4]⟩

section
variable {tbl : Nat → Option CFunc} {ci : CI} {env : Env} {F0 : F} {fr : Tr AV} {kv kp : KV} {nx : Pos} {t : Tr AO} {x y z : Opd} {gx gy gz : OG}

/-! Operands that are looked at. -/
theorem OGood.any (h : OGood x gx) (hF : RF F0 fr) {k : AV → Tri} (hk : gx (fun v => chk (k v) v) env F0 = .yes) : ∃ v, v ≠ .nil ∧ k v = .yes ∧ x.ev env.toAV fr = some v := by
  obtain ⟨v, h1, h2⟩ := h _ _ _ _ hF hk
  obtain ⟨hn, h1⟩ := chk_yes h1
  exact ⟨v, hn, h1, h2 hn⟩
theorem OGood.int (h : OGood x gx) (hF : RF F0 fr) {k : Nat → Int → Tri} (hk : gx (onInt k) env F0 = .yes) : ∃ c n, k c n = .yes ∧ x.ev env.toAV fr = some (.int c n) := by
  obtain ⟨v, h1, h2⟩ := h _ _ _ _ hF hk
  obtain ⟨c, n, rfl, h1⟩ := onInt_yes h1
  exact ⟨c, n, h1, h2 AV.noConfusion⟩
theorem OGood.bool (h : OGood x gx) (hF : RF F0 fr) {k : Bool → Tri} (hk : gx (onBool k) env F0 = .yes) : ∃ b, k b = .yes ∧ x.ev env.toAV fr = some (.bool b) := by
  obtain ⟨v, h1, h2⟩ := h _ _ _ _ hF hk
  obtain ⟨c, rfl, h1⟩ := onBool_yes h1
  exact ⟨c, h1, h2 AV.noConfusion⟩
theorem OGood.str (h : OGood x gx) (hF : RF F0 fr) {k : Nat → Nat → Tri} (hk : gx (onStr k) env F0 = .yes) : ∃ l n, k l n = .yes ∧ x.ev env.toAV fr = some (.str l n) := by
  obtain ⟨v, h1, h2⟩ := h _ _ _ _ hF hk
  obtain ⟨c, n, rfl, h1⟩ := onStr_yes h1
  exact ⟨c, n, h1, h2 AV.noConfusion⟩
theorem OGood.ptr (h : OGood x gx) (hF : RF F0 fr) {k : Pos → Nat → Tri} (hk : gx (onPtr k) env F0 = .yes) : ∃ p o, k p o = .yes ∧ x.ev env.toAV fr = some (.ptr p o) := by
  obtain ⟨v, h1, h2⟩ := h _ _ _ _ hF hk
  obtain ⟨c, n, rfl, h1⟩ := onPtr_yes h1
  exact ⟨c, n, h1, h2 AV.noConfusion⟩
theorem OGood.agg (h : OGood x gx) (hF : RF F0 fr) {k : AV → Tri} (hk : gx (onAgg k) env F0 = .yes) : ∃ b, k b = .yes ∧ x.ev env.toAV fr = some (.agg b) := by
  obtain ⟨v, h1, h2⟩ := h _ _ _ _ hF hk
  obtain ⟨c, rfl, h1⟩ := onAgg_yes h1
  exact ⟨c, h1, h2 AV.noConfusion⟩
theorem OGood.tup (h : OGood x gx) (hF : RF F0 fr) {k : AV → Tri} (hk : gx (onTup k) env F0 = .yes) : ∃ b, k b = .yes ∧ x.ev env.toAV fr = some (.tuple b) := by
  obtain ⟨v, h1, h2⟩ := h _ _ _ _ hF hk
  obtain ⟨c, rfl, h1⟩ := onTup_yes h1
  exact ⟨c, h1, h2 AV.noConfusion⟩
def onNat (f : Nat → Tri) (v : AV) : Tri := onInt (fun _ n => Int.rec (motive := fun _ => Tri) f (fun _ => .no) n) v
theorem onNat_yes {f : Nat → Tri} {v : AV} (h : onNat f v = .yes) : ∃ c n, v = .int c (.ofNat n) ∧ f n = .yes := by
  obtain ⟨c, n, rfl, h⟩ := onInt_yes h
  cases n with
  | ofNat n => exact ⟨c, n, rfl, h⟩
  | negSucc n => cases h
theorem OGood.nat (h : OGood x gx) (hF : RF F0 fr) {k : Nat → Tri} (hk : gx (onNat k) env F0 = .yes) : ∃ c n, k n = .yes ∧ x.ev env.toAV fr = some (.int c (.ofNat n)) := by
  obtain ⟨v, h1, h2⟩ := h _ _ _ _ hF hk
  obtain ⟨c, n, rfl, h1⟩ := onNat_yes h1
  exact ⟨c, n, h1, h2 AV.noConfusion⟩
/-- Where the nothing comes to no. -/
theorem OGood.of (h : OGood x gx) (hF : RF F0 fr) {k : AV → Tri} (hn : k .nil = .no) (hk : gx k env F0 = .yes) : ∃ v, k v = .yes ∧ x.ev env.toAV fr = some v := by
  obtain ⟨v, h1, h2⟩ := h _ _ _ _ hF hk
  exact ⟨v, h1, h2 (fun e => by rw [e, hn] at h1; cases h1)⟩

theorem OpGood.ev {f : OpF} (hci : ∀ call yld ls fr H, CI.run call yld ls fr H ci = (ci.ev ls fr H).map fun r => (.ret r.1, r.2))
    (h : ∀ call env (F0 : F) fr (kv kp : KV) nx t, RF F0 fr → f call env F0 kv kp nx t = .yes → ∃ v H', ci.ev env.toAV fr ⟨nx, t⟩ = some (v, H') ∧ kv v H'.next H'.t = .yes) : OpGood tbl ci f := by
  intro Y call _ env F0 fr kv kp nx t hF _ hf
  obtain ⟨v, H', h1, h2⟩ := h call env F0 fr kv kp nx t hF hf
  exact ⟨0, .ret v, H', by rw [hci, h1]; rfl, h2⟩
theorem OpGood.evI {f : OpF} (hci : ∀ call yld ls fr H, CI.run call yld ls fr H ci = (ci.ev ls fr H).map fun r => (.ret r.1, r.2))
    (h : ∀ call env (F0 : F) fr (kv kp : KV) nx t, RF F0 fr → RInv ⟨nx, t⟩ → f call env F0 kv kp nx t = .yes → ∃ v H', ci.ev env.toAV fr ⟨nx, t⟩ = some (v, H') ∧ kv v H'.next H'.t = .yes) : OpGood tbl ci f := by
  intro Y call _ env F0 fr kv kp nx t hF hI hf
  obtain ⟨v, H', h1, h2⟩ := h call env F0 fr kv kp nx t hF hI hf
  exact ⟨0, .ret v, H', by rw [hci, h1]; rfl, h2⟩
end

/-- Where a slow answer is handed on. -/
def slowV (kv : KV) (nx : Pos) (t : Tr AO) (o : Option AV) : Tri := oT (fun v => fA v (fun v => kv v nx t)) o
theorem slowV_yes {kv : KV} {nx : Pos} {t : Tr AO} {o : Option AV} (h : slowV kv nx t o = .yes) : ∃ v, o = some v ∧ kv v nx t = .yes := by
  obtain ⟨v, h1, h2⟩ := oT_yes h
  rw [fA_eq] at h2
  exact ⟨v, h1, h2⟩
def slowH (kv : KV) (o : Option (AV × Heap)) : Tri := oT (fun r => Prod.rec (motive := fun _ => Tri) (fun v H => fA v (fun v => Heap.rec (motive := fun _ => Tri) (fun nx t => kv v nx t) H)) r) o
theorem slowH_yes {kv : KV} {o : Option (AV × Heap)} (h : slowH kv o = .yes) : ∃ v H, o = some (v, H) ∧ kv v H.next H.t = .yes := by
  obtain ⟨⟨v, H⟩, h1, h2⟩ := oT_yes h
  have h3 : fA v (fun v => kv v H.next H.t) = .yes := h2
  rw [fA_eq] at h3
  exact ⟨v, H, h1, h3⟩

/-! The operations. -/
def opNo : OpF := fun _ _ _ _ _ _ _ => .no
theorem good_no {tbl : Nat → Option CFunc} {ci : CI} : OpGood tbl ci opNo := fun _ _ _ _ _ _ _ _ _ _ _ _ h => by cases h

section
variable {tbl : Nat → Option CFunc} {x y z : Opd} {gx gy gz : OG}

def opMov (gx : OG) : OpF := fun _ e f kv _ nx t => gx (fun v => chk (kv v nx t) v) e f
theorem good_mov (hx : OGood x gx) : OpGood tbl (.mov x) (opMov gx) := by
  refine .ev (fun _ _ _ _ _ => by simp only [CI.run]; cases CI.ev _ _ _ _ <;> rfl) fun call env F0 fr kv kp nx t hF h => ?_
  obtain ⟨v, _, h1, h2⟩ := hx.any hF h
  exact ⟨v, ⟨nx, t⟩, by simp [CI.ev, h2], h1⟩

def opPick (gx gy gz : OG) : OpF := fun _ e f kv _ nx t => gx (onBool fun b => Bool.rec (motive := fun _ => Tri) (gz (fun v => chk (kv v nx t) v) e f) (gy (fun v => chk (kv v nx t) v) e f) b) e f
theorem good_pick (hx : OGood x gx) (hy : OGood y gy) (hz : OGood z gz) : OpGood tbl (.pick x y z) (opPick gx gy gz) := by
  refine .ev (fun _ _ _ _ _ => by simp only [CI.run]; cases CI.ev _ _ _ _ <;> rfl) fun call env F0 fr kv kp nx t hF h => ?_
  obtain ⟨b, h1, h2⟩ := hx.bool hF h
  cases b with
  | true =>
    obtain ⟨v, _, h3, h4⟩ := hy.any hF h1
    exact ⟨v, ⟨nx, t⟩, by simp [CI.ev, h2, h4], h3⟩
  | false =>
    obtain ⟨v, _, h3, h4⟩ := hz.any hF h1
    exact ⟨v, ⟨nx, t⟩, by simp [CI.ev, h2, h4], h3⟩

/-- A new row of cells that are known. -/
def opAlloc (tr : Tr AV) (n : Nat) : OpF := fun _ _ _ kv _ nx t => newK (.cells tr n false) (fun p => kv (.ptr p 0)) nx t
def dAlloc (z : AV) (n : Nat) : OpF := Bool.rec (motive := fun _ => OpF) opNo (Option.rec (motive := fun _ => OpF) opNo (fun tr => opAlloc tr n) (treeOf z)) (Nat.beq (lenR z) n)
theorem good_alloc (z : AV) (n : Nat) : OpGood tbl (.alloc z n) (dAlloc z n) := by
  unfold dAlloc
  cases hb : Nat.beq (lenR z) n with
  | false => exact good_no
  | true =>
    have hn : z.len = n := by rw [← lenR_eq]; exact Nat.eq_of_beq_eq_true hb
    cases ht : treeOf z with
    | none => exact good_no
    | some tr =>
      refine .ev (fun _ _ _ _ _ => by simp only [CI.run]; cases CI.ev _ _ _ _ <;> rfl) fun call env F0 fr kv kp nx t hF h => ?_
      have h : newK (.cells tr n false) (fun p => kv (.ptr p 0)) nx t = .yes := h
      rw [newK_eq] at h
      refine ⟨_, _, ?_, h⟩
      simp [CI.ev, hn, Heap.row, ht]

def opBox (gx : OG) : OpF := fun _ e f kv _ nx t => gx (cellsV fun cs => rowK cs false (fun p => kv (.ptr p 0)) nx t) e f
theorem good_box (hx : OGood x gx) : OpGood tbl (.box x) (opBox gx) := by
  refine .ev (fun _ _ _ _ _ => by simp only [CI.run]; cases CI.ev _ _ _ _ <;> rfl) fun call env F0 fr kv kp nx t hF h => ?_
  obtain ⟨v, h1, h2⟩ := hx.of hF rfl h
  obtain ⟨_, h1⟩ := cellsV_yes h1
  rw [rowK_eq] at h1
  obtain ⟨⟨p, H'⟩, h3, h4⟩ := oT_yes h1
  exact ⟨_, _, by simp [CI.ev, h2, h3], h4⟩

/-! What is built. -/
/-- A list's part, in the place of so many. -/
def dropK (n : Nat) (v : AV) (k : AV → Tri) : Tri := Nat.rec (motive := fun _ => AV → Tri) k (fun _ ih => onList .no (fun _ r => ih r)) n v
theorem dropK_yes {n : Nat} : ∀ {v : AV} {k : AV → Tri}, dropK n v k = .yes → k (v.drop n) = .yes ∧ n ≤ v.len := by
  induction n with
  | zero => intro v k h; exact ⟨by cases v <;> exact h, Nat.zero_le _⟩
  | succ n ih =>
    intro v k h
    rcases onList_yes (show onList .no (fun _ r => dropK n r k) v = .yes from h) with ⟨_, h⟩ | ⟨a, r, rfl, h⟩
    · cases h
    · obtain ⟨h1, h2⟩ := ih h
      exact ⟨h1, by simp only [AV.len]; omega⟩
def spliceK (off size : Nat) (cs : AV) (v : AV) (k : AV → Tri) : Tri :=
  Nat.rec (motive := fun _ => (AV → Tri) → AV → Tri) (fun k v => dropK size v (fun r => appK cs r k)) (fun _ ih k => onList .no (fun a r => ih (fun r => k (.cons a r)) r)) off k v
theorem spliceK_yes {off size : Nat} {cs : AV} : ∀ {v : AV} {k : AV → Tri}, spliceK off size cs v k = .yes → k (AV.app (v.take off) (AV.app cs (v.drop (off + size)))) = .yes ∧ off + size ≤ v.len := by
  induction off with
  | zero =>
    intro v k h
    obtain ⟨h1, h2⟩ := dropK_yes (show dropK size v (fun r => appK cs r k) = .yes from h)
    rw [appK_eq] at h1
    exact ⟨by cases v <;> simpa [AV.take, AV.app] using h1, by omega⟩
  | succ n ih =>
    intro v k h
    rcases onList_yes (show onList .no (fun a r => spliceK n size cs r (fun r => k (.cons a r))) v = .yes from h) with ⟨_, h⟩ | ⟨a, r, rfl, h⟩
    · cases h
    · obtain ⟨h1, h2⟩ := ih h
      refine ⟨?_, by simp only [AV.len]; omega⟩
      rw [show n + 1 + size = (n + size) + 1 by omega]
      exact h1

def PsGood (ps : Parts) (g : (AV → Tri) → AV → Env → F → Tri) : Prop := ∀ k t env (F0 : F) fr, RF F0 fr → g k t env F0 = .yes → ∃ v, k v = .yes ∧ ps.fill env.toAV fr t = some v
def dParts {β : Type} (ps : Parts) (no : β) : (((AV → Tri) → AV → Env → F → Tri) → β) → β :=
  Parts.rec (motive := fun _ => (((AV → Tri) → AV → Env → F → Tri) → β) → β) (fun K => K fun k t _ _ => k t)
    (fun off size x _ ih K => dOpd x no fun g => ih fun gs => K fun k t e f => g (cellsV fun cs => ifB (andB (Nat.beq (lenR cs) size) (isListR cs)) (spliceK off size cs t (fun t => gs k t e f)) .no) e f) ps
theorem dParts_eq {β : Type} (ps : Parts) (no : β) : ∀ (K : ((AV → Tri) → AV → Env → F → Tri) → β), dParts ps no K = no ∨ ∃ g, dParts ps no K = K g ∧ PsGood ps g := by
  induction ps with
  | nil => intro K; exact .inr ⟨_, rfl, fun k t env F0 fr _ h => ⟨t, h, rfl⟩⟩
  | cons off size x r ih =>
    intro K
    rcases dOpd_eq x no (fun g => dParts r no fun gs => K fun k t e f => g (cellsV fun cs => ifB (andB (Nat.beq (lenR cs) size) (isListR cs)) (spliceK off size cs t (fun t => gs k t e f)) .no) e f) with h | ⟨g, h, hg⟩
    · exact .inl h
    · rcases ih (fun gs => K fun k t e f => g (cellsV fun cs => ifB (andB (Nat.beq (lenR cs) size) (isListR cs)) (spliceK off size cs t (fun t => gs k t e f)) .no) e f) with h' | ⟨gs, h', hgs⟩
      · exact .inl (h.trans h')
      · refine .inr ⟨_, h.trans h', fun k t env F0 fr hF hk => ?_⟩
        obtain ⟨v, h1, h2⟩ := hg.of hF rfl hk
        obtain ⟨_, h1⟩ := cellsV_yes h1
        obtain ⟨h3, h4⟩ := ifB_yes h1
        rw [andB_eq, Bool.and_eq_true, lenR_eq, isListR_eq] at h3
        obtain ⟨h5, h6⟩ := spliceK_yes h4
        obtain ⟨u, h7, h8⟩ := hgs _ _ _ _ _ hF h5
        refine ⟨u, h7, ?_⟩
        have h9 : v.cells.len = size := Nat.eq_of_beq_eq_true h3.1
        simp only [Parts.fill, h2, Option.bind_eq_bind, Option.bind_some]
        rw [if_pos ⟨h9, h6, h3.2⟩]
        exact h8

def opBuild (z : AV) (g : (AV → Tri) → AV → Env → F → Tri) : OpF := fun _ e f kv _ nx t => g (fun cs => kv (.agg cs) nx t) z e f
theorem good_build {ps : Parts} {g : (AV → Tri) → AV → Env → F → Tri} (z : AV) (hg : PsGood ps g) : OpGood tbl (.build z ps) (opBuild z g) := by
  refine .ev (fun _ _ _ _ _ => by simp only [CI.run]; cases CI.ev _ _ _ _ <;> rfl) fun call env F0 fr kv kp nx t hF h => ?_
  obtain ⟨v, h1, h2⟩ := hg _ _ _ _ _ hF h
  exact ⟨.agg v, ⟨nx, t⟩, by simp [CI.ev, h2], h1⟩

def opBuildSl (z : AV) (n len : Nat) (g : (AV → Tri) → AV → Env → F → Tri) : OpF := fun _ e f kv _ nx t => g (fun cs => ifB (Nat.beq (lenR cs) n) (rowK cs false (fun p => kv (.slice p 0 len len)) nx t) .no) z e f
theorem good_buildSl {ps : Parts} {g : (AV → Tri) → AV → Env → F → Tri} (z : AV) (n len : Nat) (hg : PsGood ps g) : OpGood tbl (.buildSlice z n len ps) (opBuildSl (repl z len) n len g) := by
  refine .ev (fun _ _ _ _ _ => by simp only [CI.run]; cases CI.ev _ _ _ _ <;> rfl) fun call env F0 fr kv kp nx t hF h => ?_
  obtain ⟨v, h1, h2⟩ := hg _ _ _ _ _ hF h
  obtain ⟨h3, h4⟩ := ifB_yes h1
  rw [lenR_eq] at h3
  have h3 := Nat.eq_of_beq_eq_true h3
  rw [rowK_eq] at h4
  obtain ⟨⟨p, H'⟩, h5, h6⟩ := oT_yes h4
  exact ⟨_, _, by simp [CI.ev, h2, h3, h5], h6⟩

/-! Memory. -/
def opLoad1 (gx : OG) : OpF := fun _ e f kv _ nx t => gx (onPtr fun p o => cellK p o (fun v => kv v nx t) t) e f
theorem good_load1 (hx : OGood x gx) : OpGood tbl (.load1 x) (opLoad1 gx) := by
  refine .ev (fun _ _ _ _ _ => by simp only [CI.run]; cases CI.ev _ _ _ _ <;> rfl) fun call env F0 fr kv kp nx t hF h => ?_
  obtain ⟨p, o, h1, h2⟩ := hx.ptr hF h
  rw [cellK_eq (nx := nx)] at h1
  obtain ⟨v, h3, h4⟩ := oT_yes h1
  exact ⟨v, ⟨nx, t⟩, by simp [CI.ev, h2, h3], h4⟩
def opLoadN (n : Nat) (gx : OG) : OpF := fun _ e f kv _ nx t => gx (onPtr fun p o => cellsAtK p o n (fun v => kv (.agg v) nx t) t) e f
theorem good_loadN (n : Nat) (hx : OGood x gx) : OpGood tbl (.loadN n x) (opLoadN n gx) := by
  refine .ev (fun _ _ _ _ _ => by simp only [CI.run]; cases CI.ev _ _ _ _ <;> rfl) fun call env F0 fr kv kp nx t hF h => ?_
  obtain ⟨p, o, h1, h2⟩ := hx.ptr hF h
  rw [cellsAtK_eq (nx := nx)] at h1
  obtain ⟨v, h3, h4⟩ := oT_yes h1
  exact ⟨.agg v, ⟨nx, t⟩, by simp [CI.ev, h2, h3], h4⟩
def opStore (n : Nat) (gx gy : OG) : OpF := fun _ e f kv _ nx t => gx (onPtr fun p o => gy (cellsV fun cs => ifB (Nat.beq (lenR cs) n) (storeK p o cs (kv undefA) nx t) .no) e f) e f
theorem good_store (n : Nat) (hx : OGood x gx) (hy : OGood y gy) : OpGood tbl (.store n x y) (opStore n gx gy) := by
  refine .ev (fun _ _ _ _ _ => by simp only [CI.run]; cases CI.ev _ _ _ _ <;> rfl) fun call env F0 fr kv kp nx t hF h => ?_
  obtain ⟨p, o, h1, h2⟩ := hx.ptr hF h
  obtain ⟨v, h3, h4⟩ := hy.of hF rfl h1
  obtain ⟨_, h3⟩ := cellsV_yes h3
  obtain ⟨h5, h6⟩ := ifB_yes h3
  rw [lenR_eq] at h5
  have h5 := Nat.eq_of_beq_eq_true h5
  rw [storeK_eq] at h6
  obtain ⟨H', h7, h8⟩ := oT_yes h6
  exact ⟨_, _, by simp [CI.ev, h2, h4, h5, h7], h8⟩
def opStore1 (gx gy : OG) : OpF := fun _ e f kv _ nx t => gx (onPtr fun p o => gy (cellsV fun cs => onList .no (fun v r => onList (store1K p o v (kv undefA) nx t) (fun _ _ => .no) r) cs) e f) e f
theorem good_store1 (hx : OGood x gx) (hy : OGood y gy) : OpGood tbl (.store 1 x y) (opStore1 gx gy) := by
  refine .ev (fun _ _ _ _ _ => by simp only [CI.run]; cases CI.ev _ _ _ _ <;> rfl) fun call env F0 fr kv kp nx t hF h => ?_
  obtain ⟨p, o, h1, h2⟩ := hx.ptr hF h
  obtain ⟨v, h3, h4⟩ := hy.of hF rfl h1
  obtain ⟨_, h3⟩ := cellsV_yes h3
  rcases onList_yes h3 with ⟨_, h⟩ | ⟨a, r, hv, h5⟩
  · cases h
  rcases onList_yes h5 with ⟨rfl, h6⟩ | ⟨_, _, _, h⟩
  · rw [store1K_eq] at h6
    obtain ⟨H', h7, h8⟩ := oT_yes h6
    exact ⟨_, _, by simp [CI.ev, h2, h4, hv, AV.len, h7], h8⟩
  · cases h
def dStore (n : Nat) (gx gy : OG) : OpF := Nat.rec (motive := fun _ => OpF) (opStore 0 gx gy) (fun m _ => Nat.rec (motive := fun _ => OpF) (opStore1 gx gy) (fun _ _ => opStore n gx gy) m) n
theorem good_dStore (n : Nat) (hx : OGood x gx) (hy : OGood y gy) : OpGood tbl (.store n x y) (dStore n gx gy) := by
  rcases n with _ | (_ | n)
  · exact good_store 0 hx hy
  · exact good_store1 hx hy
  · exact good_store _ hx hy

end
end
end Go.Dx.K
