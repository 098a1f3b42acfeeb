import Derived.Test.YthpnhdopheofcaaDxLt
set_option linter.unusedSimpArgs false
set_option linter.unusedVariables false
namespace Go.Dx
structure But (S : Pos → Prop) (M M' : Mem) : Prop where
 next : M.next.num ≤ M'.next.num
 get : ∀ p b, ¬ S p → M.get p = some b → M'.get p = some b
theorem But.refl (S : Pos → Prop) (M : Mem) : But S M M := ⟨Nat.le_refl _, fun _ _ _ h => h⟩
theorem But.trans {S : Pos → Prop} {A B C : Mem} (h : But S A B) (k : But S B C) : But S A C := ⟨Nat.le_trans h.next k.next, fun p b hn hp => k.get p b hn (h.get p b hn hp)⟩
theorem But.mono {S S' : Pos → Prop} {A B : Mem} (h : But S A B) (hs : ∀ p, S p → S' p) : But S' A B := ⟨h.next, fun p b hn hp => h.get p b (fun e => hn (hs p e)) hp⟩
theorem But.old {A B : Mem} (h : But (fun _ => False) A B) : Old A B := ⟨h.next, fun p b hp => h.get p b id hp⟩
theorem Old.but {A B : Mem} (h : Old A B) (S : Pos → Prop) : But S A B := ⟨h.next, fun p b _ hp => h.get p b hp⟩
theorem But.new {S : Pos → Prop} {M : Mem} (h : M.wf) (b : MB) : But S M (M.new b) := (Old.new h b).but S
theorem But.put {S : Pos → Prop} (M : Mem) {p : Pos} (hp : S p) (b : MB) : But S M (M.put p b) := ⟨Nat.le_refl _, fun q c hn hq => by
 simp only [Mem.put]
 rw [if_neg (fun e : q = p => hn (by rw [e]; exact hp))]; exact hq⟩
theorem But.fresh {S : Pos → Prop} {A B : Mem} (hA : A.wf) (h : But (fun p => S p ∨ A.next.num ≤ p.num) A B) : But S A B := ⟨h.next, fun p b hn hp => h.get p b (fun e => e.elim hn fun e => by have := hA p b hp; omega) hp⟩
theorem slLen_nil : slLen .nilslice = some 0 := rfl
theorem slLen_slice (p : Pos) (o n c : Nat) : slLen (.slice p o n c) = some n := rfl
theorem slLen_oslice (p : Pos) (o n c : Nat) : slLen (.oslice p o n c) = some n := rfl
theorem slAt_slice (p : Pos) (o n c : Nat) : slAt (.slice p o n c) = some (p, o, n) := rfl
theorem slAt_oslice (p : Pos) (o n c : Nat) : slAt (.oslice p o n c) = some (p, o, n) := rfl
theorem lenOf_slice (p : Pos) (o n c : Nat) : lenOf (.slice p o n c) = some n := rfl
theorem lenOf_oslice (p : Pos) (o n c : Nat) : lenOf (.oslice p o n c) = some n := rfl
theorem lenOf_nil : lenOf .nilslice = some 0 := rfl
theorem lenOf_str (l n : Nat) : lenOf (.str l n) = some l := rfl
theorem firstM_nil (M : Mem) (s n : Nat) : firstM M s n .nilslice = some [] := rfl
theorem firstM_slice (M : Mem) (s n : Nat) (p : Pos) (o a b : Nat) : firstM M s n (.slice p o a b) = if n * s = 0 then some [] else M.cellsAt p o (n * s) := rfl
theorem firstM_oslice (M : Mem) (s n : Nat) (p : Pos) (o a b : Nat) : firstM M s n (.oslice p o a b) = if n * s = 0 then some [] else M.cellsAt p o (n * s) := rfl
theorem srcM_nil (M : Mem) (s n : Nat) : srcM M s n .nilslice = firstM M s n .nilslice := rfl
theorem srcM_slice (M : Mem) (s n : Nat) (p : Pos) (o a b : Nat) : srcM M s n (.slice p o a b) = firstM M s n (.slice p o a b) := rfl
theorem srcM_oslice (M : Mem) (s n : Nat) (p : Pos) (o a b : Nat) : srcM M s n (.oslice p o a b) = firstM M s n (.oslice p o a b) := rfl
attribute [go_sem] slLen_nil slLen_slice slLen_oslice slAt_slice slAt_oslice lenOf_slice lenOf_oslice lenOf_nil lenOf_str firstM_nil firstM_slice firstM_oslice srcM_nil srcM_slice srcM_oslice
def SlIs (M : Mem) (v : AV) (size : Nat) (L : List (List AV)) : Prop :=
 slLen v = some L.length ∧ (∀ x ∈ L, x.length = size) ∧ (L ≠ [] → ∃ p off, slAt v = some (p, off, L.length) ∧ ∀ i, i < L.length → MB.cellsAt (M.get p) (off + i * size) size = L[i]?)
theorem SlIs.len {M : Mem} {v : AV} {size : Nat} {L : List (List AV)} (h : SlIs M v size L) : slLen v = some L.length := h.1
theorem SlIs.nil (M : Mem) (size : Nat) : SlIs M .nilslice size [] := ⟨rfl, fun _ h => (by cases h), fun h => absurd rfl h⟩
theorem SlIs.at_ {M : Mem} {v : AV} {size : Nat} {L : List (List AV)} (h : SlIs M v size L) {i : Nat} (hi : i < L.length) :
  ∃ p off, slAt v = some (p, off, L.length) ∧ MB.cellsAt (M.get p) (off + i * size) size = L[i]? := by
 obtain ⟨p, off, h1, h2⟩ := h.2.2 (fun e => by rw [e] at hi; simp at hi)
 exact ⟨p, off, h1, h2 i hi⟩
theorem cellsAt_old {b b' : Option MB} (h : ∀ c, b = some c → b' = some c) {o n : Nat} {l : List AV} (hc : MB.cellsAt b o n = some l) : MB.cellsAt b' o n = some l := by
 cases b with
 | none => cases hc
 | some c => rw [h c rfl]; exact hc
theorem SlIs.old {M M' : Mem} {v : AV} {size : Nat} {L : List (List AV)} (h : SlIs M v size L) (ho : Old M M') : SlIs M' v size L := by
 refine ⟨h.1, h.2.1, fun hne => ?_⟩
 obtain ⟨p, off, h1, h2⟩ := h.2.2 hne
 refine ⟨p, off, h1, fun i hi => ?_⟩
 have := h2 i hi
 rw [List.getElem?_eq_getElem hi] at this ⊢
 exact cellsAt_old (fun c hc => ho.get p c hc) this
theorem SlIs.but {M M' : Mem} {v : AV} {size : Nat} {L : List (List AV)} (h : SlIs M v size L) {S : Pos → Prop} (ho : But S M M') (hs : ∀ p o n, slAt v = some (p, o, n) → ¬ S p) : SlIs M' v size L := by
 refine ⟨h.1, h.2.1, fun hne => ?_⟩
 obtain ⟨p, off, h1, h2⟩ := h.2.2 hne
 refine ⟨p, off, h1, fun i hi => ?_⟩
 have := h2 i hi
 rw [List.getElem?_eq_getElem hi] at this ⊢
 exact cellsAt_old (fun c hc => ho.get p c (hs _ _ _ h1) hc) this
theorem SlIs.lt {M : Mem} {v : AV} {size : Nat} {L : List (List AV)} (h : SlIs M v size L) (hw : M.wf) (hne : L ≠ []) {p : Pos} {o n : Nat} (hp : slAt v = some (p, o, n)) : p.num < M.next.num := by
 obtain ⟨q, off, h1, h2⟩ := h.2.2 hne
 rw [h1] at hp
 cases hp
 have := h2 0 (by cases L; exact absurd rfl hne; simp)
 cases hb : M.get p with
 | none => rw [hb] at this; cases L with
  | nil => exact absurd rfl hne
  | cons a r => cases this
 | some b => exact hw p b hb
theorem But.fill {M : Mem} (hw : M.wf) (b b' : MB) : But (fun _ => False) M ((M.new b).put M.next b') :=
 But.fresh hw ((But.new hw b).trans (But.put _ (.inr (by exact Nat.le_refl _)) _))
theorem Mem.wf.fill {M : Mem} (hw : M.wf) (b b' : MB) : ((M.new b).put M.next b').wf := (hw.new b).put (o := b) (by simp [Mem.new]) b'
theorem MB.cell_row {b : Option MB} {o n : Nat} {l : List AV} (h : MB.cellsAt b o n = some l) {j : Nat} (hj : j < n) : MB.cell b (o + j) = l[j]? := by
 have key : ∀ m : List AV, (if o + n ≤ m.length then some ((m.drop o).take n) else none) = some l → m[o + j]? = l[j]? := by
  intro m hm
  split at hm
  ·cases hm
   rw [List.getElem?_take_of_lt hj, List.getElem?_drop]
  ·cases hm
 cases b with
 | none => cases h
 | some c => cases c <;> first | exact key _ h | cases h
theorem MB.cell_one {b : Option MB} {o : Nat} {x : AV} (h : MB.cellsAt b o 1 = some [x]) : MB.cell b o = some x := by
 have := MB.cell_row h (j := 0) (by omega)
 simpa using this
def OwnSl (M : Mem) (v : AV) (size : Nat) (L : List (List AV)) : Prop :=
 (∀ x ∈ L, x.length = size) ∧ ((v = .nilslice ∧ L = []) ∨ ∃ p, v = .oslice p 0 L.length size ∧ M.get p = some (.cells L.flatten true) ∧ L ≠ [])
def ownP (v : AV) (p : Pos) : Prop := ∃ n s, v = .oslice p 0 n s
theorem flatten_len {L : List (List AV)} {size : Nat} (h : ∀ x ∈ L, x.length = size) : L.flatten.length = L.length * size := by
 induction L with
 | nil => simp
 | cons a r ih => simp only [List.flatten_cons, List.length_append, List.length_cons]; rw [ih fun x hx => h x (by simp [hx]), h a (by simp), Nat.add_mul]; omega
theorem flatten_row {L : List (List AV)} {size : Nat} (h : ∀ x ∈ L, x.length = size) : ∀ {i : Nat} {x : List AV}, L[i]? = some x → (L.flatten.drop (i * size)).take size = x := by
 induction L with
 | nil => intro i x hx; simp at hx
 | cons a r ih =>
  intro i x hx
  have ha := h a (by simp)
  cases i with
  | zero => simp at hx; subst hx; simp [← ha]
  | succ i =>
   have hm : (i + 1) * size = size + i * size := by rw [Nat.succ_mul]; omega
   rw [List.flatten_cons, hm, ← List.drop_drop, List.drop_left' ha]
   exact ih (fun y hy => h y (by simp [hy])) (by simpa using hx)
theorem OwnSl.nil (M : Mem) (size : Nat) : OwnSl M .nilslice size [] := ⟨fun _ h => (by cases h), .inl ⟨rfl, rfl⟩⟩
theorem OwnSl.rows {M : Mem} {v : AV} {size : Nat} {L : List (List AV)} (h : OwnSl M v size L) : SlIs M v size L := by
 obtain ⟨hr, ⟨rfl, rfl⟩ | ⟨p, rfl, hg, hne⟩⟩ := h
 ·exact SlIs.nil M size
 ·refine ⟨rfl, hr, fun _ => ⟨p, 0, rfl, fun i hi => ?_⟩⟩
  rw [hg]
  show (if 0 + i * size + size ≤ L.flatten.length then some ((L.flatten.drop (0 + i * size)).take size) else none) = _
  have : i * size + size ≤ L.length * size := by rw [← Nat.succ_mul]; exact Nat.mul_le_mul_right _ hi
  rw [if_pos (by rw [flatten_len hr]; omega), Nat.zero_add, flatten_row hr (List.getElem?_eq_getElem hi), List.getElem?_eq_getElem hi]
theorem OwnSl.old {M M' : Mem} {v : AV} {size : Nat} {L : List (List AV)} (h : OwnSl M v size L) {S : Pos → Prop} (ho : But S M M') (hs : ∀ p, ownP v p → ¬ S p) : OwnSl M' v size L := by
 obtain ⟨hr, h⟩ := h
 refine ⟨hr, ?_⟩
 rcases h with h | ⟨p, rfl, hg, hne⟩
 ·exact .inl h
 ·exact .inr ⟨p, rfl, ho.get p _ (hs p ⟨_, _, rfl⟩) hg, hne⟩
theorem OwnSl.lt {M : Mem} {v : AV} {size : Nat} {L : List (List AV)} (h : OwnSl M v size L) (hw : M.wf) {p : Pos} (hp : ownP v p) : p.num < M.next.num := by
 obtain ⟨hr, ⟨rfl, rfl⟩ | ⟨q, rfl, hg, hne⟩⟩ := h
 ·obtain ⟨n, s, e⟩ := hp; cases e
 ·obtain ⟨n, s, e⟩ := hp
  cases e
  exact hw _ _ hg
theorem OwnSl.append {M : Mem} {v : AV} {size : Nat} {L : List (List AV)} (h : OwnSl M v size L) (hw : M.wf) {x : List AV} (hx : x.length = size) (hc : x.all isCell = true) (hs : 0 < size) (hm : L.length + 1 ≤ most) (hL : ∀ y ∈ L, y.all isCell = true) :
  ∃ v' M', appendM M size 1 x v = some (v', M') ∧ OwnSl M' v' size (L ++ [x]) ∧ But (ownP v) M M' ∧ M'.wf ∧ (∀ p, ownP v' p → M.next.num ≤ p.num) := by
 obtain ⟨hr, ⟨rfl, rfl⟩ | ⟨p, rfl, hg, hne⟩⟩ := h
 ·refine ⟨.oslice M.next 0 1 size, M.new (.cells x true), ?_, ⟨fun y hy => by simp at hy; rw [hy]; exact hx, .inr ⟨_, rfl, ?_, by simp⟩⟩, But.new hw _, hw.new _, fun p hp => ?_⟩
  ·simp only [appendM]
   rw [if_neg (by omega), if_pos (by decide)]
   simp only [Mem.row]
   rw [if_pos hc]; rfl
  ·simp [Mem.new]
  ·obtain ⟨n, s, e⟩ := hp; cases e; exact Nat.le_refl _
 ·have hlt := hw _ _ hg
  have hall : (L.flatten ++ x).all isCell = true := by
   rw [List.all_append, hc, Bool.and_true, List.all_eq_true]
   intro a ha
   obtain ⟨y, hy, hay⟩ := List.mem_flatten.1 ha
   exact List.all_eq_true.1 (hL y hy) a hay
  refine ⟨.oslice M.next 0 (L.length + 1) size, (M.put p .dead).new (.cells (L.flatten ++ x) true), ?_, ⟨fun y hy => ?_, .inr ⟨M.next, ?_, ?_, by simp⟩⟩, ?_, (hw.put hg _).new _, fun p hp => ?_⟩
  ·have hfl := flatten_len hr
   have hmul : (L.length + 1) * size = L.length * size + size := Nat.succ_mul _ _
   simp only [appendM, hg]
   rw [if_neg (by simp), if_neg (by rw [hmul]; omega), if_pos (by omega)]
   have : ((L.flatten.drop 0).take (L.length * size)) = L.flatten := by rw [List.drop_zero, List.take_of_length_le (by omega)]
   rw [this]
   simp only [Mem.row]
   rw [if_pos hall]; rfl
  ·rcases List.mem_append.1 hy with h | h
   ·exact hr y h
   ·simp at h; rw [h]; exact hx
  ·simp
  ·show (if M.next = M.next then some (MB.cells (L.flatten ++ x) true) else _) = _
   rw [if_pos rfl]; simp
  ·refine ⟨by show M.next.num ≤ M.next.succ.num; rw [Pos.num_succ]; omega, fun q b hn hq => ?_⟩
   show (if q = M.next then _ else if q = p then _ else M.get q) = some b
   rw [if_neg (by rw [hw.ne hq]; exact id), if_neg (fun e => hn ⟨_, _, by rw [e]⟩)]; exact hq
  ·obtain ⟨n, s, e⟩ := hp; cases e; exact Nat.le_refl _
structure GoodK (k : EK) (G : AV → Prop) : Prop where
 same : ∀ a, G a → eqKey k a a = some true
 other : ∀ a b, G a → G b → a ≠ b → eqKey k a b = some false
def ME.keys : ME → List AV
 | .nil => []
 | .cons k _ _ r => k :: r.keys
structure MapIs (k : EK) (G : AV → Prop) (es : ME) (f : AV → Option AV) : Prop where
 good : ∀ a ∈ es.keys, G a
 once : es.keys.Nodup
 find : ∀ a, G a → es.find k a = some (f a)
 mem : ∀ a, G a → (a ∈ es.keys ↔ f a ≠ none)
noncomputable def updF (f : AV → Option AV) (a : AV) (v : Option AV) : AV → Option AV := fun b => @ite _ (b = a) (Classical.propDecidable _) v (f b)
theorem updF_same (f : AV → Option AV) (a : AV) (v : Option AV) : updF f a v a = v := by simp [updF]
theorem updF_ne (f : AV → Option AV) {a b : AV} (v : Option AV) (h : b ≠ a) : updF f a v b = f b := by simp [updF, h]
theorem MapIs.congr {k : EK} {G : AV → Prop} {es : ME} {f g : AV → Option AV} (h : MapIs k G es f) (e : ∀ a, G a → f a = g a) : MapIs k G es g :=
 ⟨h.good, h.once, fun a ha => by rw [h.find a ha, e a ha], fun a ha => by rw [h.mem a ha, e a ha]⟩
theorem MapIs.nil {k : EK} {G : AV → Prop} : MapIs k G .nil (fun _ => none) := ⟨fun a h => (by cases h), List.nodup_nil, fun a _ => rfl, fun a _ => by simp [ME.keys]⟩
theorem MapIs.okKey {k : EK} {G : AV → Prop} (hk : GoodK k G) {a : AV} (h : G a) : okKey k a = true := by unfold Dx.okKey; rw [hk.same a h]; rfl
theorem put_keys {k : EK} {G : AV → Prop} (hk : GoodK k G) {a v : AV} (ha : G a) (clock : Nat) : ∀ (es : ME), (∀ b ∈ es.keys, G b) → ∃ es' fr, es.put k a v clock = some (es', fr) ∧
  (∀ b, G b → b ≠ a → es'.find k b = es.find k b) ∧ es'.find k a = some (some v) ∧ ((a ∈ es.keys ∧ es'.keys = es.keys ∧ fr = false) ∨ (a ∉ es.keys ∧ es'.keys = es.keys ++ [a] ∧ fr = true)) := by
 intro es
 induction es with
 | nil =>
  intro _
  refine ⟨_, true, rfl, fun b hb hne => ?_, ?_, .inr ⟨by simp [ME.keys], rfl, rfl⟩⟩
  ·simp [ME.find, hk.other b a hb ha hne]
  ·simp [ME.find, hk.same a ha]
 | cons y u b r ih =>
  intro hg
  have hy : G y := hg y (by simp [ME.keys])
  by_cases e : a = y
  ·subst e
   refine ⟨.cons a v b r, false, by simp [ME.put, hk.same a ha], fun c hc hne => ?_, by simp [ME.find, hk.same a ha], .inl ⟨by simp [ME.keys], rfl, rfl⟩⟩
   simp [ME.find, hk.other c a hc ha hne]
  ·obtain ⟨es', fr, h1, h2, h3, h4⟩ := ih fun c hc => hg c (by simp [ME.keys, hc])
   refine ⟨.cons y u b es', fr, by simp [ME.put, hk.other a y ha hy e, h1], fun c hc hne => ?_, ?_, ?_⟩
   ·simp only [ME.find]
    rw [h2 c hc hne]
   ·simp only [ME.find, hk.other a y ha hy e, h3]
   ·rcases h4 with ⟨m1, m2, m3⟩ | ⟨m1, m2, m3⟩
    ·exact .inl ⟨by simp [ME.keys, m1], by simp [ME.keys, m2], m3⟩
    ·exact .inr ⟨by simp [ME.keys, m1, e], by simp [ME.keys, m2], m3⟩
theorem MapIs.put {k : EK} {G : AV → Prop} (hk : GoodK k G) {es : ME} {f : AV → Option AV} (h : MapIs k G es f) {a v : AV} (ha : G a) (clock : Nat) :
  ∃ es' fr, es.put k a v clock = some (es', fr) ∧ MapIs k G es' (updF f a (some v)) := by
 obtain ⟨es', fr, h1, h2, h3, h4⟩ := put_keys hk (v := v) ha clock es h.good
 refine ⟨es', fr, h1, ?_, ?_, fun b hb => ?_, fun b hb => ?_⟩
 ·rcases h4 with ⟨_, m2, _⟩ | ⟨_, m2, _⟩
  ·rw [m2]; exact h.good
  ·rw [m2]; intro b hb; rcases List.mem_append.1 hb with hb | hb
   ·exact h.good b hb
   ·simp at hb; rw [hb]; exact ha
 ·rcases h4 with ⟨_, m2, _⟩ | ⟨m1, m2, _⟩
  ·rw [m2]; exact h.once
  ·rw [m2, List.nodup_append]
   refine ⟨h.once, by simp, fun x hx y hy => ?_⟩
   simp at hy
   intro e
   exact m1 (by rw [← hy, ← e]; exact hx)
 ·by_cases e : b = a
  ·subst e; rw [h3, updF_same]
  ·rw [h2 b hb e, h.find b hb, updF_ne _ _ e]
 ·by_cases e : b = a
  ·subst e
   rw [updF_same]
   rcases h4 with ⟨m1, m2, _⟩ | ⟨m1, m2, _⟩
   ·rw [m2]; simp [m1]
   ·rw [m2]; simp
  ·rw [updF_ne _ _ e, ← h.mem b hb]
   rcases h4 with ⟨_, m2, _⟩ | ⟨_, m2, _⟩
   ·rw [m2]
   ·rw [m2]; simp [e]
theorem del_keys {k : EK} {G : AV → Prop} (hk : GoodK k G) {a : AV} (ha : G a) : ∀ (es : ME), (∀ b ∈ es.keys, G b) → es.keys.Nodup → ∃ es', es.del k a = some es' ∧
  (∀ b, G b → b ≠ a → es'.find k b = es.find k b) ∧ es'.find k a = some none ∧ (∀ b, b ∈ es'.keys ↔ b ∈ es.keys ∧ b ≠ a) ∧ es'.keys.Nodup := by
 intro es
 induction es with
 | nil => intro _ _; exact ⟨_, rfl, fun _ _ _ => rfl, rfl, fun b => by simp [ME.keys], List.nodup_nil⟩
 | cons y u b r ih =>
  intro hg hn
  have hy : G y := hg y (by simp [ME.keys])
  simp only [ME.keys, List.nodup_cons] at hn
  have none_of : ∀ (es : ME), (∀ b ∈ es.keys, G b) → a ∉ es.keys → es.find k a = some none := by
   intro es
   induction es with
   | nil => intro _ _; rfl
   | cons z _ _ r ih =>
    intro hg hn
    simp only [ME.keys, List.mem_cons, not_or] at hn
    simp only [ME.find, hk.other a z ha (hg z (by simp [ME.keys])) hn.1]
    exact ih (fun c hc => hg c (by simp [ME.keys, hc])) hn.2
  by_cases e : a = y
  ·subst e
   refine ⟨r, by simp [ME.del, hk.same a ha], fun c hc hne => ?_, none_of r (fun c hc => hg c (by simp [ME.keys, hc])) hn.1, fun c => ?_, hn.2⟩
   ·simp [ME.find, hk.other c a hc ha hne]
   ·simp only [ME.keys, List.mem_cons]
    constructor
    ·intro hc; exact ⟨.inr hc, fun e => hn.1 (e ▸ hc)⟩
    ·intro ⟨hc, hne⟩; exact hc.resolve_left hne
  ·obtain ⟨es', h1, h2, h3, h4, h5⟩ := ih (fun c hc => hg c (by simp [ME.keys, hc])) hn.2
   refine ⟨.cons y u b es', by simp [ME.del, hk.other a y ha hy e, h1], fun c hc hne => ?_, ?_, fun c => ?_, ?_⟩
   ·simp only [ME.find]; rw [h2 c hc hne]
   ·simp only [ME.find, hk.other a y ha hy e, h3]
   ·simp only [ME.keys, List.mem_cons, h4]
    constructor
    ·rintro (rfl | ⟨hc, hne⟩)
     ·exact ⟨.inl rfl, fun ec => e ec.symm⟩
     ·exact ⟨.inr hc, hne⟩
    ·rintro ⟨rfl | hc, hne⟩
     ·exact .inl rfl
     ·exact .inr ⟨hc, hne⟩
   ·simp only [ME.keys, List.nodup_cons]
    exact ⟨fun hc => hn.1 ((h4 y).1 hc).1, h5⟩
theorem MapIs.del {k : EK} {G : AV → Prop} (hk : GoodK k G) {es : ME} {f : AV → Option AV} (h : MapIs k G es f) {a : AV} (ha : G a) : ∃ es', es.del k a = some es' ∧ MapIs k G es' (updF f a none) := by
 obtain ⟨es', h1, h2, h3, h4, h5⟩ := del_keys hk ha es h.good h.once
 refine ⟨es', h1, fun b hb => h.good b ((h4 b).1 hb).1, h5, fun b hb => ?_, fun b hb => ?_⟩
 ·by_cases e : b = a
  ·subst e; rw [h3, updF_same]
  ·rw [h2 b hb e, h.find b hb, updF_ne _ _ e]
 ·rw [h4]
  by_cases e : b = a
  ·subst e; simp [updF_same]
  ·rw [updF_ne _ _ e, h.mem b hb]; simp [e]
theorem goodInt (c : Nat) : GoodK (.leaf .int) (fun a => ∃ n, a = .int c n) where
 same := by rintro a ⟨n, rfl⟩; simp [eqKey, eqLeaf]
 other := by
  rintro a b ⟨n, rfl⟩ ⟨m, rfl⟩ hne
  have : n ≠ m := fun e => hne (by rw [e])
  simp [eqKey, eqLeaf, this]
end Go.Dx
