/-
  How the deterministic semantics' memory stands to the model's: the relation, and what reading, writing, and making does to it.
-/
import Derived.Test.YtpmfhinbmnaomaaGreatDoorDxRel
import Derived.Laws.Sem
import Derived.Laws.World
import Derived.Below
set_option linter.unusedSimpArgs false
set_option linter.unusedVariables false
set_option linter.unusedSectionVars false
namespace Go.Dx
variable {P : Program}

/-- Is a name of a living object's? -/
theorem live_of_get {H : Heap} {p : Pos} {o : AO} (h : H.get p = some o) (hd : o ≠ .dead) : H.live p = true := by
  unfold Heap.live; rw [h]; cases o <;> first | rfl | exact absurd rfl hd
theorem live_get {H : Heap} {p : Pos} (h : H.live p = true) : ∃ o, H.get p = some o ∧ o ≠ .dead := by
  unfold Heap.live at h
  cases ho : H.get p with
  | none => rw [ho] at h; cases h
  | some o => rw [ho] at h; cases o with
    | dead => cases h
    | ro t => exact ⟨_, rfl, by simp⟩
    | cells t n op => exact ⟨_, rfl, by simp⟩
    | map es c => exact ⟨_, rfl, by simp⟩
    | loop st pe f k => exact ⟨_, rfl, by simp⟩
    | bld t e u q => exact ⟨_, rfl, by simp⟩
    | buf e l m => exact ⟨_, rfl, by simp⟩

/-- A map's entries. -/
def MR (ρ : Ren) : ME → List MapEntry → Prop
  | .nil, l => l = []
  | .cons k v b r, l => ∃ e es, l = e :: es ∧ RX ρ k [e.key] ∧ RX ρ v [e.val] ∧ e.born = b ∧ MR ρ r es

theorem MR.mono {ρ ρ' : Ren} (h : Ext ρ ρ') : ∀ {m : ME} {l : List MapEntry}, MR ρ m l → MR ρ' m l := by
  intro m
  induction m with
  | nil => intro l hl; exact hl
  | cons k v b r ih =>
    intro l hl
    obtain ⟨e, es, e1, h1, h2, h3, h4⟩ := hl
    exact ⟨e, es, e1, h1.mono h, h2.mono h, h3, ih h4⟩

/-- A loop's states. -/
def stOf : Nat → LoopState
  | 0 => .ready
  | 1 => .busy
  | 2 => .done
  | _ => .exhausted
/-- The code that a round's way out stands for. -/
def jumpOf : AV → Option Code
  | .nil => none
  | .int 0 (.ofNat i) => some (.exit i)
  | .int 1 (.ofNat l) => some (.goto l)
  | .bool true => some .ret
  | _ => some .skip
/-- What a loop keeps is made of its code. -/
def AO.loopOk (P : Program) (ng : Nat) : AO → Prop
  | .bld t e _ _ => bldP P t = some e
  | .loop _ _ _ k => codeP P ⟨k.far, k.n, ng⟩ k.srcA = some k.assign ∧ codeP P ⟨k.far, k.n, ng⟩ k.srcB = some k.body ∧ k.assign.plain = true ∧ k.body.plain = true ∧ ∀ t ∈ k.ps, t < k.n
  | _ => True

/-- Where the bytes of a text lie that is being built. -/
def BufAt (ρ : Ren) : Option (Pos × Nat) → Value → Prop
  | none, v => v = .slice none 0 0
  | some (q, l), v => ∃ M, ρ q = some M ∧ M.base = 0 ∧ l ≤ M.sz ∧ v = .slice (some ⟨M.b, 0, none⟩) l M.sz
theorem BufAt.mono {ρ ρ' : Ren} {q : Option (Pos × Nat)} {v : Value} (h : Ext ρ ρ') (hb : BufAt ρ q v) : BufAt ρ' q v := by
  cases q with
  | none => exact hb
  | some q => obtain ⟨M, h1, h2⟩ := hb; exact ⟨M, h _ _ h1, h2⟩

/-- An object of a place. -/
def HO (ρ : Ren) (w : World) (L : Loc) : AO → Prop
  | .cells t n op => ∃ c e fr, w.heap[L.b]? = some (.cells c e fr) ∧ c.size = L.sz ∧ L.base + n ≤ c.size ∧ (op = false → L.base = 0 ∧ c.size = n ∧ ∀ i, (fr.1 ≤ i && i < fr.2) = false) ∧
      (∀ i v, t.get (key i) = some v → i < n ∧ ∃ x, c[L.base + i]? = some x ∧ RX ρ v [x] ∧ isCell v = true) ∧
      (∀ i, i < c.size → (fr.1 ≤ i && i < fr.2) = false)
  | .map es clock => ∃ arr, w.heap[L.b]? = some (.map arr clock) ∧ MR ρ es arr.toList
  | .dead => True
  | .ro t => ∃ c e fr, w.heap[L.b]? = some (.cells c e fr) ∧ ∀ i v, t.get (key i) = some v → ∃ x, c[L.base + i]? = some x ∧ RX ρ v [x] ∧ isCell v = true
  | .loop st pe fr k => ∃ r, w.heap[L.b]? = some (.loop r) ∧ r.state = stOf st ∧ r.pending = jumpOf pe ∧ r.params.toList = k.ps ∧ r.assign = k.srcA ∧ r.body = k.srcB ∧ k.n ≤ r.tmps.size ∧
      ∀ t v, k.far t = true → fr.get (key (t + 1)) = some v → ∃ x, r.tmps[t]? = some x ∧ RX ρ v [x]
  | .bld t _ u q => L.base = 0 ∧ ∃ v, w.heap[L.b]? = some (.cells #[.pointer (if u then some ⟨L.b, 0, none⟩ else none), v] t (0, 0)) ∧ BufAt ρ q v
  | .buf e l m => L.base = 0 ∧ 0 < l ∧ m < 256 ^ l ∧ l ≤ L.sz ∧ ∃ c, w.heap[L.b]? = some (.cells c e (0, 0)) ∧ c.size = L.sz ∧ ∀ i, i < l → c[i]? = some (.int .u8 (byteAt m i))

structure HRel (P : Program) (ng : Nat) (ρ : Ren) (H : Heap) (w : World) : Prop where
  -- an object whose name stands for nothing yet is none (it is to come)
  objs : ∀ p o L, H.get p = some o → o ≠ .dead → ρ p = some L → HO ρ w L o
  inj : ∀ p q L M, H.live p = true → H.live q = true → ρ p = some L → ρ q = some M → L.b = M.b → p = q
  bound : ∀ p L, ρ p = some L → L.b < w.heap.size
  fresh : ∀ p, H.next.num ≤ p.num → ρ p = none
  globals : ∀ g, g < ng → ∃ sz, ρ (key g) = some ⟨g, 0, sz⟩
  wf : ∀ p, H.next.num ≤ p.num → H.live p = false
  loops : ∀ p o, H.get p = some o → o.loopOk P ng

theorem HO.mono {ρ ρ' : Ren} {w : World} {L : Loc} {o : AO} (h : Ext ρ ρ') (ho : HO ρ w L o) : HO ρ' w L o := by
  cases o with
  | cells t n op =>
    obtain ⟨c, e, fr, h1, h2, h3, h4, h5, h6⟩ := ho
    exact ⟨c, e, fr, h1, h2, h3, h4, fun i v hv => by obtain ⟨a, x, b, c, d⟩ := h5 i v hv; exact ⟨a, x, b, c.mono h, d⟩, h6⟩
  | map es clock => obtain ⟨arr, h1, h2⟩ := ho; exact ⟨arr, h1, h2.mono h⟩
  | dead => trivial
  | ro t =>
    obtain ⟨c, e, fr, h1, h5⟩ := ho
    exact ⟨c, e, fr, h1, fun i v hv => by obtain ⟨x, b, c, d⟩ := h5 i v hv; exact ⟨x, b, c.mono h, d⟩⟩
  | loop st pe fr k =>
    obtain ⟨r, h1, h2, h3, h4, h5, h6, h7, h8⟩ := ho
    exact ⟨r, h1, h2, h3, h4, h5, h6, h7, fun t v ht hv => by obtain ⟨x, a, b⟩ := h8 t v ht hv; exact ⟨x, a, b.mono h⟩⟩
  | bld t e u q => obtain ⟨h0, v, h1, h2⟩ := ho; exact ⟨h0, v, h1, h2.mono h⟩
  | buf e l m => exact ho

/-- The same block, the same object. -/
theorem HO.same {ρ : Ren} {w w' : World} {L : Loc} {o : AO} (h : w'.heap[L.b]? = w.heap[L.b]?) (ho : HO ρ w L o) : HO ρ w' L o := by
  cases o with
  | cells t n op => obtain ⟨c, e, fr, h1, h2⟩ := ho; exact ⟨c, e, fr, h ▸ h1, h2⟩
  | map es clock => obtain ⟨arr, h1, h2⟩ := ho; exact ⟨arr, h ▸ h1, h2⟩
  | dead => trivial
  | ro t => obtain ⟨c, e, fr, h1, h2⟩ := ho; exact ⟨c, e, fr, h ▸ h1, h2⟩
  | loop st pe fr k => obtain ⟨r, h1, h2⟩ := ho; exact ⟨r, h ▸ h1, h2⟩
  | bld t e u q => obtain ⟨h0, v, h1, h2⟩ := ho; exact ⟨h0, v, h ▸ h1, h2⟩
  | buf e l m => obtain ⟨h0, h1, h2, h3, c, h4, h5⟩ := ho; exact ⟨h0, h1, h2, h3, c, h ▸ h4, h5⟩

/-- What is read alone stays. -/
def Keeps (ρ : Ren) (H : Heap) (w : World) (H' : Heap) (w' : World) (p : Pos) : Prop :=
  ∀ t, H.get p = some (.ro t) → H'.get p = some (.ro t) ∧ ∀ L, ρ p = some L → L.b < w.heap.size → w'.heap[L.b]? = w.heap[L.b]?

/-- From one memory to a later one. -/
structure Step (ρ : Ren) (H : Heap) (w : World) (ρ' : Ren) (H' : Heap) (w' : World) : Prop where
  ext : Ext ρ ρ'
  os : w'.os = w.os
  tape : w'.tape = w.tape
  output : w'.output = w.output
  size : w.heap.size ≤ w'.heap.size
  frame : ∀ b, b < w.heap.size → (∀ p L, H.live p = true → ρ p = some L → L.b ≠ b) → w'.heap[b]? = w.heap[b]?
  own : ∀ p L, H'.live p = true → ρ' p = some L → w.heap.size ≤ L.b ∨ ∃ q M, H.live q = true ∧ ρ q = some M ∧ M.b = L.b
  next : H.next.num ≤ H'.next.num
  -- a name that was free in the first memory is free still, or names a new block or one of the first memory's
  new : ∀ p L, ρ p = none → ρ' p = some L → H.next.num ≤ p.num
  -- what was given up, or was not yet made, of the names that are given out, is not made again
  old : ∀ p, p.num < H.next.num → H.live p = false → H'.live p = false
  keep : ∀ p, p.num < H.next.num → Keeps ρ H w H' w' p

theorem Step.refl (ρ : Ren) (H : Heap) (w : World) : Step ρ H w ρ H w :=
  ⟨Ext.refl ρ, rfl, rfl, rfl, Nat.le_refl _, fun _ _ _ => rfl, fun p L h1 h2 => .inr ⟨p, L, h1, h2, rfl⟩, Nat.le_refl _, fun p L h1 h2 => (by rw [h1] at h2; cases h2), fun _ _ h => h, fun _ _ _ h => ⟨h, fun _ _ _ => rfl⟩⟩

theorem Step.trans {ρ ρ' ρ'' : Ren} {H H' H'' : Heap} {w w' w'' : World} (h : Step ρ H w ρ' H' w') (k : Step ρ' H' w' ρ'' H'' w'') : Step ρ H w ρ'' H'' w'' where
  ext := h.ext.trans k.ext
  os := k.os.trans h.os
  tape := k.tape.trans h.tape
  output := k.output.trans h.output
  size := Nat.le_trans h.size k.size
  frame := fun b hb hn => by
    rw [k.frame b (Nat.lt_of_lt_of_le hb h.size) ?_, h.frame b hb hn]
    intro p L hl hp e
    rcases h.own p L hl hp with hge | ⟨q, M, hq, hM, e2⟩
    · omega
    · exact hn q M hq hM (e2.trans e)
  own := fun p L hl hp => by
    rcases k.own p L hl hp with hge | ⟨q, M, hq, hM, e⟩
    · exact .inl (Nat.le_trans h.size hge)
    · rcases h.own q M hq hM with hge | ⟨r, N, hr, hN, e2⟩
      · exact .inl (by omega)
      · exact .inr ⟨r, N, hr, hN, e2.trans e⟩
  next := Nat.le_trans h.next k.next
  new := fun p L h1 h2 => by
    cases hp : ρ' p with
    | none => exact Nat.le_trans h.next (k.new p L hp h2)
    | some M => exact h.new p M h1 hp
  old := fun p hp hl => k.old p (Nat.lt_of_lt_of_le hp h.next) (h.old p hp hl)
  keep := fun p hp t hg => by
    obtain ⟨g1, c1⟩ := h.keep p hp t hg
    obtain ⟨g2, c2⟩ := k.keep p (Nat.lt_of_lt_of_le hp h.next) t g1
    exact ⟨g2, fun L hL hb => by rw [c2 L (h.ext p L hL) (Nat.lt_of_lt_of_le hb h.size), c1 L hL hb]⟩

/-- A draw turns nothing. -/
theorem HRel.drew {ng : Nat} {ρ : Ren} {H : Heap} {w w' : World} (h : HRel P ng ρ H w) (e : w'.heap = w.heap) : HRel P ng ρ H w' where
  objs := fun p o L h1 h2 h3 => (h.objs p o L h1 h2 h3).same (by rw [e])
  inj := h.inj
  bound := fun p L hp => by rw [e]; exact h.bound p L hp
  fresh := h.fresh
  globals := h.globals
  wf := h.wf
  loops := h.loops

theorem Step.drew {ρ : Ren} {H : Heap} {w w' : World} (e : w'.heap = w.heap) (h1 : w'.os = w.os) (h2 : w'.tape = w.tape) (h3 : w'.output = w.output) : Step ρ H w ρ H w' :=
  ⟨Ext.refl ρ, h1, h2, h3, by rw [e]; exact Nat.le_refl _, fun _ _ _ => by rw [e], fun p L h1 h2 => .inr ⟨p, L, h1, h2, rfl⟩, Nat.le_refl _, fun p L h1 h2 => (by rw [h1] at h2; cases h2), fun _ _ h => h, fun _ _ _ h => ⟨h, fun _ _ _ => by rw [e]⟩⟩

/-- Where two memories answer the same, the same lives. -/
theorem live_congr {H H' : Heap} {p : Pos} (h : H'.get p = H.get p) : H'.live p = H.live p := by unfold Heap.live; rw [h]

section new
variable {ng : Nat} {ρ : Ren} {H : Heap} {w : World}

/-- A name more. -/
def Ren.put (ρ : Ren) (p : Pos) (L : Loc) : Ren := fun q => if q = p then some L else ρ q

theorem Ren.put_ext {p : Pos} {L : Loc} (h : ρ p = none) : Ext ρ (ρ.put p L) := fun q M hq => by
  unfold Ren.put
  split
  · rename_i e; subst e; rw [h] at hq; cases hq
  · exact hq

/-- A new block, its object named by the next name. -/
theorem HRel.alloc (h : HRel P ng ρ H w) {o : Obj} {ao : AO} {sz : Nat} {w' : World} (e : w'.heap = w.heap.push o)
    (ho : ∀ ρ', Ext ρ ρ' → HO ρ' w' ⟨w.heap.size, 0, sz⟩ ao) (hd : ao ≠ .dead) (hlo : ao.loopOk P ng := by trivial) :
    HRel P ng (ρ.put H.next ⟨w.heap.size, 0, sz⟩) (H.new ao).2 w' := by
  have hn : ρ H.next = none := h.fresh _ (Nat.le_refl _)
  have hext := Ren.put_ext (L := ⟨w.heap.size, 0, sz⟩) hn
  have hold : ∀ b, b < w.heap.size → w'.heap[b]? = w.heap[b]? := fun b hb => by rw [e, Array.getElem?_push, if_neg (by omega)]
  have hget : ∀ q, (H.new ao).2.get q = if q = H.next then some ao else H.get q := fun q => by simp [Heap.new, Heap.get, Tr.get_set]
  refine ⟨?_, ?_, ?_, ?_, ?_, ?_, fun p o' hp => by rw [hget] at hp; split at hp; (cases hp; exact hlo); exact h.loops p o' hp⟩
  · intro p o' L hp hne hL
    rw [hget] at hp
    split at hp
    · rename_i ep
      cases hp
      simp [Ren.put, ep] at hL
      subst hL
      exact ho _ hext
    · rename_i ep
      simp [Ren.put, ep] at hL
      exact ((h.objs p o' L hp hne hL).mono hext).same (hold _ (h.bound _ _ hL))
  · intro p q L M hp hq hL hM hb
    have key : ∀ r N, (H.new ao).2.live r = true → ρ.put H.next ⟨w.heap.size, 0, sz⟩ r = some N → (r = H.next ∧ N.b = w.heap.size) ∨ (r ≠ H.next ∧ H.live r = true ∧ ρ r = some N ∧ N.b < w.heap.size) := by
      intro r N hr hN
      by_cases er : r = H.next
      · left; simp [Ren.put, er] at hN; exact ⟨er, by rw [← hN]⟩
      · right
        simp [Ren.put, er] at hN
        refine ⟨er, ?_, hN, h.bound _ _ hN⟩
        obtain ⟨o', ho', hd'⟩ := live_get hr
        rw [hget, if_neg er] at ho'
        exact live_of_get ho' hd'
    rcases key p L hp hL with ⟨e1, b1⟩ | ⟨e1, l1, r1, b1⟩ <;> rcases key q M hq hM with ⟨e2, b2⟩ | ⟨e2, l2, r2, b2⟩
    · rw [e1, e2]
    · omega
    · omega
    · exact h.inj p q L M l1 l2 r1 r2 hb
  · intro p L hp
    rw [e, Array.size_push]
    unfold Ren.put at hp
    split at hp
    · cases hp; simp
    · have := h.bound p L hp; omega
  · intro p hp
    have hp' : H.next.succ.num ≤ p.num := hp
    rw [Pos.num_succ] at hp'
    have : p ≠ H.next := fun e => by rw [e] at hp'; omega
    simp only [Ren.put, if_neg this]
    exact h.fresh p (by omega)
  · intro g hg
    obtain ⟨s, hs⟩ := h.globals g hg
    exact ⟨s, hext _ _ hs⟩
  · intro p hp
    have hp' : H.next.succ.num ≤ p.num := hp
    rw [Pos.num_succ] at hp'
    rw [live_congr (H := H) (by rw [hget, if_neg (fun e => by rw [e] at hp'; omega)])]
    exact h.wf p (by omega)

theorem Step.alloc (h : HRel P ng ρ H w) {o : Obj} {ao : AO} {sz : Nat} {w' : World} (e : w'.heap = w.heap.push o) (h1 : w'.os = w.os) (h2 : w'.tape = w.tape) (h3 : w'.output = w.output) :
    Step ρ H w (ρ.put H.next ⟨w.heap.size, 0, sz⟩) (H.new ao).2 w' where
  ext := Ren.put_ext (h.fresh _ (Nat.le_refl _))
  os := h1
  tape := h2
  output := h3
  size := by rw [e, Array.size_push]; omega
  frame := fun b hb _ => by rw [e, Array.getElem?_push, if_neg (by omega)]
  own := fun p L hl hp => by
    by_cases er : p = H.next
    · left; simp [Ren.put, er] at hp; rw [← hp]; exact Nat.le_refl _
    · right
      simp [Ren.put, er] at hp
      refine ⟨p, L, ?_, hp, rfl⟩
      obtain ⟨o', ho', hd'⟩ := live_get hl
      have : (H.new ao).2.get p = H.get p := by simp [Heap.new, Heap.get, Tr.get_set, er]
      rw [this] at ho'
      exact live_of_get ho' hd'
  next := by show H.next.num ≤ H.next.succ.num; rw [Pos.num_succ]; omega
  new := fun p L h1 h2 => by
    by_cases er : p = H.next
    · rw [er]; exact Nat.le_refl _
    · simp [Ren.put, er] at h2; rw [h1] at h2; cases h2
  old := fun p hp hl => by
    rw [live_congr (H := H) (by simp [Heap.new, Heap.get, Tr.get_set, show p ≠ H.next from fun e => by rw [e] at hp; omega])]
    exact hl
  keep := fun p hp t hg => ⟨by rw [← hg]; simp [Heap.new, Heap.get, Tr.get_set, show p ≠ H.next from fun e => by rw [e] at hp; omega], fun L _ hb => by rw [e, Array.getElem?_push, if_neg (by omega)]⟩

/-- An object turned in place. -/
theorem HRel.turn (h : HRel P ng ρ H w) {p : Pos} {o : AO} {L : Loc} {ao : AO} {w' : World} (hp : H.get p = some o) (hd : o ≠ .dead) (hL : ρ p = some L)
    (hs : w'.heap.size = w.heap.size) (hold : ∀ b, b ≠ L.b → w'.heap[b]? = w.heap[b]?) (ho : HO ρ w' L ao) (hd' : ao ≠ .dead) (hlo : ao.loopOk P ng := by trivial) : HRel P ng ρ (H.put p ao) w' := by
  have hget : ∀ q, (H.put p ao).get q = if q = p then some ao else H.get q := fun q => by simp [Heap.put, Heap.get, Tr.get_set]
  have hlive : ∀ q, (H.put p ao).live q = true → H.live q = true := by
    intro q hq
    obtain ⟨o', ho', hne⟩ := live_get hq
    rw [hget] at ho'
    split at ho'
    · rename_i e; subst e; exact live_of_get hp hd
    · exact live_of_get ho' hne
  refine ⟨?_, ?_, ?_, ?_, h.globals, ?_, fun p o' hp => by rw [hget] at hp; split at hp; (cases hp; exact hlo); exact h.loops p o' hp⟩
  · intro q o' M hq hne hM
    rw [hget] at hq
    split at hq
    · rename_i e; subst e; cases hq; rw [hL] at hM; cases hM; exact ho
    · rename_i e
      refine (h.objs q o' M hq hne hM).same (hold _ ?_)
      intro eb
      exact e (h.inj q p M L (live_of_get hq hne) (live_of_get hp hd) hM hL eb)
  · intro q r M N hq hr hM hN hb
    exact h.inj q r M N (hlive q hq) (hlive r hr) hM hN hb
  · intro q M hM; rw [hs]; exact h.bound q M hM
  · intro q hq; exact h.fresh q hq
  · intro q hq
    have := h.wf q hq
    cases hl : (H.put p ao).live q with
    | false => rfl
    | true => rw [hlive q hl] at this; cases this

theorem Step.turn (h : HRel P ng ρ H w) {p : Pos} {o : AO} {L : Loc} {ao : AO} {w' : World} (hp : H.get p = some o) (hd : o ≠ .dead) (hro : ∀ t, o ≠ .ro t) (hL : ρ p = some L)
    (hs : w'.heap.size = w.heap.size) (hold : ∀ b, b ≠ L.b → w'.heap[b]? = w.heap[b]?) (h1 : w'.os = w.os) (h2 : w'.tape = w.tape) (h3 : w'.output = w.output) :
    Step ρ H w ρ (H.put p ao) w' where
  ext := Ext.refl ρ
  os := h1
  tape := h2
  output := h3
  size := by rw [hs]; exact Nat.le_refl _
  frame := fun b _ hn => hold b fun e => hn p L (live_of_get hp hd) hL e.symm
  own := fun q M hl hM => .inr ⟨q, M, by
    obtain ⟨o', ho', hne⟩ := live_get hl
    have hget : (H.put p ao).get q = if q = p then some ao else H.get q := by simp [Heap.put, Heap.get, Tr.get_set]
    rw [hget] at ho'
    split at ho'
    · rename_i e; subst e; exact live_of_get hp hd
    · exact live_of_get ho' hne, hM, rfl⟩
  next := Nat.le_refl _
  new := fun q M h1 h2 => by rw [h1] at h2; cases h2
  old := fun q hq hl => by
    have e : q ≠ p := fun e => by rw [e, live_of_get hp hd] at hl; cases hl
    rw [live_congr (H := H) (by simp [Heap.put, Heap.get, Tr.get_set, e])]
    exact hl
  keep := fun q hq t hg => by
    have e : q ≠ p := fun e => by subst e; rw [hg] at hp; cases hp; exact hro t rfl
    exact ⟨by rw [← hg]; simp [Heap.put, Heap.get, Tr.get_set, e], fun K hK _ => hold _ fun eb => e (h.inj q p K L (live_of_get hg (by simp)) (live_of_get hp hd) hK hL eb)⟩

end new

end Go.Dx
