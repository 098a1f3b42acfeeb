import Derived.Test.YthpnhdopheofcaaDxOpen
import Derived.Test.YthpnhdopheofcaaDxOpd
import Derived.Deep.Slices
import Derived.Deep.Fields
import Derived.ChangeSame
set_option linter.unusedSimpArgs false
set_option linter.unusedVariables false
namespace Go.Dx
open Go.ChangeShapes Go.WideShapes Go.Deep
inductive CK where
 | i (k : IntKind)
 | s
 | b
 deriving DecidableEq
def CK.ok : CK → AV → Prop
 | .i k, v => ∃ n, v = .int (codeOf k) n ∧ (Lit.int k n).wf = true
 | .s, v => ∃ l n, v = .str l n ∧ n < 256 ^ l ∧ l ≤ maxLen
 | .b, v => ∃ b, v = .bool b
def ckOf (P : Program) (t : TypeId) : Option CK :=
 match P.underlying t with
 | some (.int k) => some (.i k)
 | some .string => some .s
 | some .bool => some .b
 | _ => none
def okRow : List CK → List AV → Prop
 | [], [] => True
 | k :: ks, v :: vs => k.ok v ∧ okRow ks vs
 | _, _ => False
theorem okRow_length : ∀ {ks : List CK} {l : List AV}, okRow ks l → l.length = ks.length := by
 intro ks
 induction ks with
 | nil => intro l h; cases l <;> first | rfl | exact h.elim
 | cons k ks ih => intro l h; cases l with
  | nil => exact h.elim
  | cons v vs => simp [ih h.2]
def rowOf (P : Program) (e : TypeId) : Option (List CK) :=
 match P.underlying e with
 | some (.struct fs) => if oneCellFields P fs = true then mapO (fun f : Field => ckOf P f.type) fs.toList else none
 | _ => (ckOf P e).map fun k => [k]
section
variable {H : Type} {enc : TypeId × Value → H} {P : Program} {w : World} {base : Nat} {spare : Nat → Bool} {held : Bool}
theorem trod_leaf {t : TypeId} {k : CK} {fuel : Nat} {x : Value} {y : DataW H × List MemPlace} (hk : ckOf P t = some k) (h : DataW.trod enc P w base spare held fuel t [x] = some y) :
  ∃ v, k.ok v ∧ isCell v = true ∧ ∀ ρ, RX ρ v [x] := by
 unfold ckOf at hk
 split at hk
 ·rename_i k' hu
  cases hk
  obtain ⟨n, h1, _, h3⟩ := DataW.trod_int hu h
  cases h1
  exact ⟨.int (codeOf k') n, ⟨n, rfl, h3⟩, rfl, fun ρ => ⟨code_lt k', by rw [kind_code]⟩⟩
 ·rename_i hu
  cases hk
  obtain ⟨s, h1, _, h3⟩ := DataW.trod_string hu h
  cases h1
  have hs : s.size = s.data.toList.length := (Array.length_toList).symm
  exact ⟨.str s.size (numOfBytes s.data.toList), ⟨_, _, rfl, by rw [hs]; exact numOfBytes_lt _, h3⟩, rfl, fun ρ => ⟨by rw [hs]; exact numOfBytes_lt _, by rw [textOf_num]⟩⟩
 ·rename_i hu
  cases hk
  cases fuel with
  | zero => simp [DataW.trod] at h
  | succ n =>
   unfold DataW.trod at h
   simp only [hu] at h
   cases x with
   | bool b => exact ⟨.bool b, ⟨b, rfl⟩, rfl, fun ρ => rfl⟩
   | _ => simp at h
 ·cases hk
theorem row_of_cells {c : Nat → Option Value} : ∀ {ks : List CK}, (∀ j k, ks[j]? = some k → ∃ x v, c j = some x ∧ k.ok v ∧ isCell v = true ∧ ∀ ρ, RX ρ v [x]) →
  ∃ vs, okRow ks vs ∧ ∀ (j : Nat) v, vs[j]? = some v → ∃ x, c j = some x ∧ isCell v = true ∧ ∀ ρ, RX ρ v [x] := by
 intro ks
 induction ks generalizing c with
 | nil => intro _; exact ⟨[], trivial, fun j v h => by simp at h⟩
 | cons k ks ih =>
  intro h
  obtain ⟨x, v, h1, h2, h3, h4⟩ := h 0 k rfl
  obtain ⟨vs, h5, h6⟩ := ih (c := fun j => c (j + 1)) fun j k' hj => h (j + 1) k' (by simpa using hj)
  refine ⟨v :: vs, ⟨h2, h5⟩, fun j u hu => ?_⟩
  cases j with
  | zero => simp at hu; subst hu; exact ⟨x, h1, h3, h4⟩
  | succ j => exact h6 j u (by simpa using hu)
theorem mapO_get {α β : Type} {f : α → Option β} : ∀ {l : List α} {m : List β}, mapO f l = some m → l.length = m.length ∧ ∀ (j : Nat) b, m[j]? = some b → ∃ a, l[j]? = some a ∧ f a = some b := by
 intro l
 induction l with
 | nil => intro m h; simp [mapO] at h; subst h; exact ⟨rfl, fun j b h => by simp at h⟩
 | cons a r ih =>
  intro m h
  simp only [mapO] at h
  split at h
  ·cases h
  ·rename_i b hb
   split at h
   ·cases h
   ·rename_i bs hbs
    cases h
    obtain ⟨h1, h2⟩ := ih hbs
    refine ⟨by simp [h1], fun j c hc => ?_⟩
    cases j with
    | zero => simp at hc; subst hc; exact ⟨a, rfl, hb⟩
    | succ j => exact h2 j c (by simpa using hc)
theorem elem_row {e : TypeId} {ks : List CK} {n : Nat} {cs : List Value} {y : DataW H × List MemPlace} (hk : rowOf P e = some ks) (hC : P.cellsOf e = ks.length) (hl : cs.length = ks.length)
  (h : DataW.trod enc P w base spare held n e cs = some y) : ∃ vs, okRow ks vs ∧ ∀ (j : Nat) v, vs[j]? = some v → ∃ x, cs[j]? = some x ∧ isCell v = true ∧ ∀ ρ, RX ρ v [x] := by
 unfold rowOf at hk
 split at hk
 ·rename_i fs hu
  split at hk
  ·rename_i hone
   obtain ⟨xs, n', _, _, hcl, hxl, hg⟩ := DataW.trod_struct hu h
   obtain ⟨hlen, hm⟩ := mapO_get hk
   refine row_of_cells (c := fun j => cs[j]?) fun j k hj => ?_
   obtain ⟨f, hf, hfk⟩ := hm j k hj
   have hf' : fs[j]? = some f := by simpa using hf
   obtain ⟨ho, hc1⟩ := hone_of hone j f hf'
   have h1 := hg j f hf'
   rw [ho, hc1] at h1
   have hjl : j < cs.length := by
    have : j < ks.length := (List.getElem?_eq_some_iff.1 hj).1
    omega
   have hone' : (cs.drop j).take 1 = [cs[j]'hjl] := by rw [List.drop_eq_getElem_cons hjl]; rfl
   rw [hone'] at h1
   have hjx : j < xs.length := by
    rw [hxl]; exact (Array.getElem?_eq_some_iff.1 hf').1
   rw [List.getElem?_eq_getElem hjx] at h1
   obtain ⟨v, h2, h3, h4⟩ := trod_leaf hfk h1
   exact ⟨_, v, List.getElem?_eq_getElem hjl, h2, h3, h4⟩
  ·cases hk
 ·obtain ⟨k, hk1, hk2⟩ := Option.map_eq_some_iff.1 hk
  subst hk2
  refine row_of_cells (c := fun j => cs[j]?) fun j k' hj => ?_
  match cs, hl with
  | [x], _ =>
   cases j with
   | zero =>
    simp at hj
    subst hj
    obtain ⟨v, h2, h3, h4⟩ := trod_leaf hk1 h
    exact ⟨x, v, rfl, h2, h3, h4⟩
   | succ j => simp at hj
def ArgSl (ks : List CK) (W : World) (v : Value) (sv : AV) (len : Nat) (xs : List (List AV)) : Prop :=
 (v = .slice none 0 0 ∧ sv = .nilslice ∧ len = 0 ∧ xs = []) ∨
 ∃ b o cap, v = .slice (some ⟨b, o, none⟩) len cap ∧ sv = .slice .h 0 len cap ∧ xs.length = cap ∧ len ≤ cap ∧ cap ≤ maxLen ∧ (∀ x ∈ xs, okRow ks x) ∧
  ∃ c e fr, W.heap[b]? = some (.cells c e fr) ∧ ∀ (i : Nat) v, xs.flatten[i]? = some v → ∃ x, c[o + i]? = some x ∧ isCell v = true ∧ ∀ ρ, RX ρ v [x]
theorem flatten_at {α : Type} {m : Nat} (hm : 0 < m) : ∀ {xs : List (List α)}, (∀ x ∈ xs, x.length = m) → ∀ (i : Nat), xs.flatten[i]? = (xs[i / m]?).bind fun r => r[i % m]? := by
 intro xs
 induction xs with
 | nil => intro _ i; simp
 | cons x r ih =>
  intro h i
  have hx := h x (by simp)
  rw [List.flatten_cons]
  by_cases hi : i < m
  ·rw [List.getElem?_append_left (by omega), Nat.div_eq_of_lt hi, Nat.mod_eq_of_lt hi]; rfl
  ·rw [List.getElem?_append_right (by omega), ih (fun y hy => h y (by simp [hy])), hx]
   have h1 : i / m = (i - m) / m + 1 := by rw [Nat.div_eq_sub_div hm (by omega)]
   have h2 : i % m = (i - m) % m := by rw [Nat.mod_eq_sub_mod (by omega)]
   rw [h1, h2]; rfl
theorem rows_of {α : Type} {Q : Nat → List α → Prop} : ∀ (n : Nat), (∀ i, i < n → ∃ r, Q i r) → ∃ xs : List (List α), xs.length = n ∧ ∀ (i : Nat) r, xs[i]? = some r → Q i r := by
 intro n
 induction n with
 | zero => intro _; exact ⟨[], rfl, fun i r h => by simp at h⟩
 | succ n ih =>
  intro h
  obtain ⟨xs, h1, h2⟩ := ih fun i hi => h i (by omega)
  obtain ⟨r, hr⟩ := h n (by omega)
  refine ⟨xs ++ [r], by simp [h1], fun i u hu => ?_⟩
  by_cases hi : i < n
  ·rw [List.getElem?_append_left (by omega)] at hu; exact h2 i u hu
  ·rw [List.getElem?_append_right (by omega)] at hu
   have : i = n := by
    rcases Nat.lt_or_ge (i - xs.length) 1 with h | h
    ·omega
    ·rw [List.getElem?_eq_none (by simpa using h)] at hu; cases hu
   subst this
   simp [h1] at hu
   subst hu; exact hr
theorem cell_add_add {b o k j : Nat} {c : Array Value} {e : TypeId} {fr : Nat × Nat} (h : w.heap[b]? = some (.cells c e fr)) : w.cell? ((Addr.add ⟨b, o, none⟩ k).add j) = c[o + k + j]? := by
 unfold Addr.add
 by_cases hk : k = 0 <;> by_cases hj : j = 0 <;> simp [hk, hj, World.cell?, h]
theorem slice_arg {t e : TypeId} {ks : List CK} {r : Reach} {b0 : Nat} {v : Value} {d : DataW H} {p : List MemPlace} (ht : P.underlying t = some (.slice e)) (hk : rowOf P e = some ks) (hC : P.cellsOf e = ks.length) (hpos : 0 < ks.length)
  (hv : Value.okWide P w r b0 t v) (h : DataW.Trod enc P w 0 (fun _ => true) held t v d p) : ∃ sv len xs, ArgSl ks w v sv len xs := by
 obtain ⟨fuel, hf⟩ := h
 obtain ⟨a, len, cap, rfl⟩ := okWide_slice ht hv
 rcases open_slice ht hf with ⟨h0, _⟩ | ⟨a', len', cap', m, n, D, Pl, hcs, _, hl, hm, hmm, _, hi⟩
 ·simp [Value.cells] at h0
  obtain ⟨rfl, rfl, rfl⟩ := h0
  exact ⟨.nilslice, 0, [], .inl ⟨rfl, rfl, rfl, rfl⟩⟩
 ·simp [Value.cells] at hcs
  obtain ⟨rfl, rfl, rfl⟩ := hcs
  simp only [if_true] at hmm
  subst hmm
  simp only [Value.okWide, ht, Cell.okWide] at hv
  have hv : len ≤ m ∧ (m : Int) ≤ IntKind.i64.max ∧ w.has P r b0 a' e m := by simpa [Cell.ok, ht] using hv
  obtain ⟨_, _, _, hspot, row, cells, hsh, _⟩ := hv
  obtain ⟨b, o, sp⟩ := a'
  simp only at hspot
  subst hspot
  have hc : ∃ c e fr, w.heap[b]? = some (.cells c e fr) := by
   unfold World.shape? at hsh
   simp only at hsh
   split at hsh
   ·rename_i c e' fr hh; exact ⟨c, e', fr, hh⟩
   all_goals cases hsh
  obtain ⟨c, e', fr, hh⟩ := hc
  have hrow : ∀ i, i < m → ∃ vs, okRow ks vs ∧ ∀ (j : Nat) u, vs[j]? = some u → ∃ x, c[o + (i * ks.length + j)]? = some x ∧ isCell u = true ∧ ∀ ρ, RX ρ u [x] := by
   intro i hi'
   obtain ⟨cs', hcs', htr⟩ := hi i hi'
   obtain ⟨_, hcl, hat⟩ := World.cells?_some hcs'
   rw [hC] at hcl hat
   obtain ⟨vs, h1, h2⟩ := elem_row hk hC hcl htr
   refine ⟨vs, h1, fun j u hu => ?_⟩
   obtain ⟨x, hx, h3, h4⟩ := h2 j u hu
   refine ⟨x, ?_, h3, h4⟩
   have hj : j < ks.length := by rw [← okRow_length h1]; exact (List.getElem?_eq_some_iff.1 hu).1
   have := hat j hj
   rw [hx] at this
   rw [cell_add_add hh, Nat.add_assoc] at this
   exact this
  obtain ⟨xs, hxl, hxs⟩ := rows_of m hrow
  have hall : ∀ x ∈ xs, okRow ks x := fun x hx => by
   obtain ⟨i, hi', e⟩ := List.mem_iff_getElem.1 hx
   exact (hxs i x (by rw [List.getElem?_eq_getElem hi', e])).1
  refine ⟨_, len, xs, .inr ⟨b, o, m, rfl, rfl, hxl, hl, hm, hall, c, e', fr, hh, fun i u hu => ?_⟩⟩
  rw [flatten_at hpos (fun x hx => okRow_length (hall x hx))] at hu
  cases hr : xs[i / ks.length]? with
  | none => rw [hr] at hu; cases hu
  | some r =>
   rw [hr] at hu
   obtain ⟨x, hx, h3, h4⟩ := (hxs _ r hr).2 (i % ks.length) u hu
   refine ⟨x, ?_, h3, h4⟩
   rw [← hx]
   congr 2
   rw [Nat.mul_comm]
   exact (Nat.div_add_mod i ks.length).symm
def argM (o : Option (List AV)) : Mem := ⟨.o .h, fun p => if p = .h then o.map .ro else none⟩
def argO (sv : AV) (xs : List (List AV)) : Option (List AV) := match sv with | .nilslice => none | _ => some xs.flatten
theorem arg_rel {ks : List CK} {v : Value} {sv : AV} {len : Nat} {xs : List (List AV)} (h : ArgSl ks w v sv len xs) :
  ∃ (G : Heap) (ρ : Ren), Sees G (argM (argO sv xs)) ∧ ROnly G ∧ HRel P 0 ρ G w ∧ RX ρ sv [v] := by
 rcases h with ⟨rfl, rfl, rfl, rfl⟩ | ⟨b, o, cap, rfl, rfl, hxl, hl, _, _, c, e, fr, hh, hc⟩
 ·refine ⟨⟨.o .h, .leaf⟩, fun _ => none, ⟨rfl, fun p b hp => ?_⟩, fun p hp => ?_, ⟨fun p o L _ _ h => (by cases h), fun p q L M _ _ h => (by cases h), fun p L h => (by cases h), fun _ _ => rfl, fun g h => by omega, fun p _ => by unfold Heap.live Heap.get; rw [Tr.get_leaf], fun p o h => by unfold Heap.get at h; rw [Tr.get_leaf] at h; cases h⟩, rfl⟩
  ·simp only [argM, argO] at hp
   split at hp <;> cases hp
  ·unfold Heap.live Heap.get at hp
   rw [Tr.get_leaf] at hp
   cases hp
 ·obtain ⟨t, k1, k2⟩ := putCells_some xs.flatten .leaf 0 (by
   rw [List.all_eq_true]
   intro x hx
   obtain ⟨i, hi, e⟩ := List.mem_iff_getElem.1 hx
   obtain ⟨_, _, h, _⟩ := hc i x (by rw [List.getElem?_eq_getElem hi, e])
   exact h)
  have hk : ∀ i, t.get (key i) = xs.flatten[i]? := fun i => by
   rw [k2]
   split
   ·simp
   ·rename_i hn; rw [Tr.get_leaf, List.getElem?_eq_none (by omega)]
  have hg : ∀ p, (Heap.mk (.o .h) (.val .leaf (.ro t) .leaf)).get p = if p = .h then some (.ro t) else none := by
   intro p
   unfold Heap.get
   cases p with
   | h => rfl
   | o p => simp only [Tr.get]; rw [Tr.get_leaf]; simp
   | i p => simp only [Tr.get]; rw [Tr.get_leaf]; simp
  have hlive : ∀ p, (Heap.mk (.o .h) (.val .leaf (.ro t) .leaf)).live p = true → p = .h := by
   intro p hp
   obtain ⟨o', ho', _⟩ := live_get hp
   rw [hg] at ho'
   split at ho'
   ·assumption
   ·cases ho'
  have hb : b < w.heap.size := by
   rcases Nat.lt_or_ge b w.heap.size with h | h
   ·exact h
   ·rw [Array.getElem?_eq_none h] at hh; cases hh
  refine ⟨⟨.o .h, .val .leaf (.ro t) .leaf⟩, fun p => if p = .h then some ⟨b, o, 0⟩ else none, ⟨rfl, fun p q hp => ?_⟩, fun p hp => ?_, ⟨?_, ?_, ?_, ?_, fun g h => by omega, ?_, fun p o' hp => by rw [hg] at hp; split at hp; (cases hp; trivial); cases hp⟩, ?_⟩
  ·simp only [argM, argO] at hp
   split at hp
   ·rename_i ep
    subst ep
    cases hp
    exact ⟨by show (1 : Nat) < 2; omega, .ro t, by rw [hg, if_pos rfl], fun i _ => hk i⟩
   ·cases hp
  ·have := hlive p hp
   subst this
   exact ⟨by show (1 : Nat) < 2; omega, t, by rw [hg, if_pos rfl]⟩
  ·intro p o' L hp _ hL
   rw [hg] at hp
   split at hp
   ·rename_i ep
    cases hp
    simp only [ep, if_true] at hL
    cases hL
    refine ⟨c, e, fr, hh, fun i u hu => ?_⟩
    rw [hk] at hu
    obtain ⟨x, h1, h2, h3⟩ := hc i u hu
    exact ⟨x, h1, h3 _, h2⟩
   ·cases hp
  ·intro p q _ _ hp hq _ _ _
   rw [hlive p hp, hlive q hq]
  ·intro p L hL
   split at hL
   ·cases hL; exact hb
   ·cases hL
  ·intro p hp
   have : p ≠ .h := fun e => by subst e; have : (2 : Nat) ≤ 1 := hp; omega
   simp [this]
  ·intro p hp
   cases hl : (Heap.mk (.o .h) (.val .leaf (.ro t) .leaf)).live p with
   | false => rfl
   | true =>
    have := hlive p hl
    subst this
    have : (2 : Nat) ≤ 1 := hp
    omega
  ·exact ⟨⟨b, o, 0⟩, by simp, hl, by simp⟩
end
end Go.Dx
