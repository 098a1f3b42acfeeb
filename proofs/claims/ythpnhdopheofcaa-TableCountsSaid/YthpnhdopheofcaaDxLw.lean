import Derived.Test.YthpnhdopheofcaaDxLm
set_option linter.unusedSimpArgs false
set_option linter.unusedVariables false
namespace Go.Dx
def opW (ls : AV) (fr : Tr AV) (x : Opd) (k : AV → Prop) : Prop :=
 match x with
 | .loc j => match ls.nth j with | some v => k v | none => False
 | .var p => match fr.get p with | some v => k v | none => False
 | .lit v => k v
def opsW (ls : AV) (fr : Tr AV) : Opds → (AV → Prop) → Prop
 | .nil, k => k .nil
 | .cons x r, k => opW ls fr x fun v => opsW ls fr r fun vs => k (.cons v vs)
def optW (ls : AV) (fr : Tr AV) (x : Option Opd) (k : Option Nat → Prop) : Prop :=
 match x with
 | none => k none
 | some x => opW ls fr x fun v => match v with | .int _ n => 0 ≤ n ∧ k (some n.toNat) | _ => False
def ptrW (v : AV) (k : Pos → Nat → Prop) : Prop := match v with | .ptr p o => k p o | _ => False
def intW (v : AV) (k : Nat → Int → Prop) : Prop := match v with | .int c n => k c n | _ => False
def natW (v : AV) (k : Nat → Prop) : Prop := match v with | .int _ n => 0 ≤ n ∧ k n.toNat | _ => False
def boolW (v : AV) (k : Bool → Prop) : Prop := match v with | .bool b => k b | _ => False
def strW (v : AV) (k : Nat → Nat → Prop) : Prop := match v with | .str l n => k l n | _ => False
def aggW (v : AV) (k : AV → Prop) : Prop := match v with | .agg cs => k cs | _ => False
def tupW (v : AV) (k : AV → Prop) : Prop := match v with | .tuple cs => k cs | _ => False
def someW {α : Type} (o : Option α) (k : α → Prop) : Prop := match o with | some a => k a | none => False
theorem opW_out {ls : AV} {fr : Tr AV} {x : Opd} {k : AV → Prop} (h : opW ls fr x k) : ∃ v, x.ev ls fr = some v ∧ k v := by
 unfold opW at h
 cases x with
 | loc j => simp only at h; split at h <;> first | exact h.elim | exact ⟨_, by assumption, h⟩
 | var p => simp only at h; split at h <;> first | exact h.elim | exact ⟨_, by assumption, h⟩
 | lit v => exact ⟨v, rfl, h⟩
theorem opsW_out {ls : AV} {fr : Tr AV} : ∀ {xs : Opds} {k : AV → Prop}, opsW ls fr xs k → ∃ vs, xs.ev ls fr = some vs ∧ k vs := by
 intro xs
 induction xs with
 | nil => intro k h; exact ⟨.nil, rfl, h⟩
 | cons x r ih =>
  intro k h
  obtain ⟨v, h1, h2⟩ := opW_out h
  obtain ⟨vs, h3, h4⟩ := ih h2
  exact ⟨.cons v vs, by simp [Opds.ev, h1, h3], h4⟩
theorem optW_out {ls : AV} {fr : Tr AV} {x : Option Opd} {k : Option Nat → Prop} (h : optW ls fr x k) : ∃ o, optN ls fr x = some o ∧ k o := by
 cases x with
 | none => exact ⟨none, rfl, h⟩
 | some x =>
  obtain ⟨v, h1, h2⟩ := opW_out h
  cases v with
  | int c n =>
   obtain ⟨h3, h4⟩ := h2
   obtain ⟨m, rfl⟩ := Int.eq_ofNat_of_zero_le h3
   exact ⟨some m, by simp only [optN, h1]; rfl, by simpa using h4⟩
  | _ => exact h2.elim
theorem ptrW_out {v : AV} {k : Pos → Nat → Prop} (h : ptrW v k) : ∃ p o, v = .ptr p o ∧ k p o := by cases v <;> first | exact h.elim | exact ⟨_, _, rfl, h⟩
theorem intW_out {v : AV} {k : Nat → Int → Prop} (h : intW v k) : ∃ c n, v = .int c n ∧ k c n := by cases v <;> first | exact h.elim | exact ⟨_, _, rfl, h⟩
theorem natW_out {v : AV} {k : Nat → Prop} (h : natW v k) : ∃ n, asNat v = some n ∧ k n := by
 cases v with
 | int c n =>
  obtain ⟨h3, h4⟩ := h
  obtain ⟨m, rfl⟩ := Int.eq_ofNat_of_zero_le h3
  exact ⟨m, rfl, by simpa using h4⟩
 | _ => exact h.elim
theorem boolW_out {v : AV} {k : Bool → Prop} (h : boolW v k) : ∃ b, v = .bool b ∧ k b := by cases v <;> first | exact h.elim | exact ⟨_, rfl, h⟩
theorem strW_out {v : AV} {k : Nat → Nat → Prop} (h : strW v k) : ∃ l n, v = .str l n ∧ k l n := by cases v <;> first | exact h.elim | exact ⟨_, _, rfl, h⟩
theorem aggW_out {v : AV} {k : AV → Prop} (h : aggW v k) : ∃ b, v = .agg b ∧ k b := by cases v <;> first | exact h.elim | exact ⟨_, rfl, h⟩
theorem tupW_out {v : AV} {k : AV → Prop} (h : tupW v k) : ∃ b, v = .tuple b ∧ k b := by cases v <;> first | exact h.elim | exact ⟨_, rfl, h⟩
theorem someW_out {α : Type} {o : Option α} {k : α → Prop} (h : someW o k) : ∃ a, o = some a ∧ k a := by cases o <;> first | exact h.elim | exact ⟨_, rfl, h⟩
def slLen : AV → Option Nat
 | .nilslice => some 0
 | .slice _ _ n _ => some n
 | .oslice _ _ n _ => some n
 | _ => none
def slAt : AV → Option (Pos × Nat × Nat)
 | .slice p o n _ => some (p, o, n)
 | .oslice p o n _ => some (p, o, n)
 | _ => none
def firstM (M : Mem) (size n : Nat) : AV → Option (List AV)
 | .nilslice => some []
 | .slice p off _ _ => if n * size = 0 then some [] else M.cellsAt p off (n * size)
 | .oslice p off _ _ => if n * size = 0 then some [] else M.cellsAt p off (n * size)
 | _ => none
def srcM (M : Mem) (size n : Nat) : AV → Option (List AV)
 | .str l m => if n ≤ l ∧ size = 1 then some (bytesFrom m 0 n).toL else none
 | v => firstM M size n v
def Mem.openSize (M : Mem) (p : Pos) : Option Nat :=
 match M.get p with
 | some (.cells l true) => some l.length
 | _ => none
def appendM (M : Mem) (size n : Nat) (new : List AV) (x : AV) : Option (AV × Mem) :=
 match x with
 | .nilslice =>
  if n = 0 then some (.nilslice, M)
  else if n ≤ most then (M.row new true).map fun r => (.oslice r.1 0 n size, r.2) else none
 | .slice p off len cap =>
  if len + n ≤ cap then
   if new.length = 0 then some (.slice p off (len + n) cap, M)
   else (M.store p (off + len * size) new).map fun M' => (.slice p off (len + n) cap, M')
  else if len + n ≤ most then
   match firstM M size len (.slice p off len cap) with
   | some old => (M.row (old ++ new) true).map fun r => (.oslice r.1 0 (len + n) size, r.2)
   | none => none
  else none
 | .oslice p off len s =>
  if s ≠ size then none else
  match M.get p with
  | some (.cells l true) =>
   if off + (len + n) * size ≤ l.length then
    if new.length = 0 then some (.oslice p off (len + n) size, M)
    else (M.store p (off + len * size) new).map fun M' => (.oslice p off (len + n) size, M')
   else if len + n ≤ most ∧ off + len * size ≤ l.length then
    ((M.put p .dead).row ((l.drop off).take (len * size) ++ new) true).map fun r => (.oslice r.1 0 (len + n) size, r.2)
   else none
  | _ => none
 | _ => none
def putAtM (M : Mem) (dst : AV) (cs : List AV) : Option Mem :=
 if cs.length = 0 then (match dst with | .nilslice => some M | .slice _ _ _ _ => some M | .oslice _ _ _ _ => some M | _ => none) else
 match dst with
 | .slice p off _ _ => M.store p off cs
 | .oslice p off n _ => if n = 0 then none else M.store p off cs
 | _ => none
def mapLookM (M : Mem) (k : EK) (key : AV) : AV → Option (Option AV)
 | .nilmap => some none
 | .map p =>
  match M.get p with
  | some (.map es _) => es.find k key
  | _ => none
 | _ => none
def mapPutM (M : Mem) (k : EK) (key v : AV) : AV → Option Mem
 | .map p =>
  match M.get p with
  | some (.map es clock) => (es.put k key v clock).map fun (es', fresh) => M.put p (.map es' (if fresh then clock + 1 else clock))
  | _ => none
 | _ => none
def mapDelM (M : Mem) (k : EK) (key : AV) : AV → Option Mem
 | .nilmap => some M
 | .map p =>
  match M.get p with
  | some (.map es clock) => (es.del k key).map fun es' => M.put p (.map es' clock)
  | _ => none
 | _ => none
def eqM (M : Mem) : EK → AV → AV → Option Bool
 | .ptr, .nilptr, .nilptr => some true
 | .ptr, .nilptr, .ptr _ _ => some false
 | .ptr, .ptr _ _, .nilptr => some false
 | .ptr, .ptr p o, .ptr q u => if p = q then some (o == u) else if M.closed p && M.closed q then some false else none
 | .ptr, _, _ => none
 | k, a, b => eqA ⟨.h, .leaf⟩ k a b
def sliceM (M : Mem) (size : Nat) (l h m : Option Nat) : AV → Option AV
 | .nilslice => (sliceBounds 0 0 l h m).map fun _ => .nilslice
 | .slice p off len cap => (sliceBounds len cap l h m).map fun (l, h, m) => if m = l then .slice p off 0 0 else .slice p (off + l * size) (h - l) (m - l)
 | .oslice p off len s =>
  if s ≠ size then none else
  match M.openSize p with
  | some n =>
   match m with
   | some _ =>
    match sliceBounds len ((n - off) / size) l h m with
    | some (l, h, m) => if m = l then (if len = 0 then none else some (.slice p off 0 0)) else some (.slice p (off + l * size) (h - l) (m - l))
    | none => none
   | none => (sliceBounds len ((n - off) / size) l h none).map fun (l, h, _) => .oslice p (off + l * size) (h - l) size
  | none => none
 | _ => none
section
variable {H : Heap} {M M' : Mem}
theorem Sees.first (hs : Sees H M) {size n : Nat} {v : AV} {l : List AV} (h : firstM M size n v = some l) : firstCells H size n v = some (AV.ofL l) := by
 cases v with
 | nilslice => cases h; rfl
 | slice p off a b =>
  simp only [firstM] at h
  simp only [firstCells]
  split at h
  ·cases h; rw [if_pos (by assumption)]; rfl
  ·rw [if_neg (by assumption)]; exact (hs.cellsAt h).1
 | oslice p off a b =>
  simp only [firstM] at h
  simp only [firstCells]
  split at h
  ·cases h; rw [if_pos (by assumption)]; rfl
  ·rw [if_neg (by assumption)]; exact (hs.cellsAt h).1
 | _ => cases h
theorem isList_bytesFrom (m : Nat) : ∀ (n i : Nat), (bytesFrom m i n).isList = true := by
 intro n
 induction n with
 | zero => intro i; rfl
 | succ n ih => intro i; exact ih (i + 1)
theorem Sees.src (hs : Sees H M) {size n : Nat} {v : AV} {l : List AV} (h : srcM M size n v = some l) : srcCells H size n v = some (AV.ofL l) := by
 cases v with
 | str k m =>
  simp only [srcM] at h
  simp only [srcCells]
  split at h
  ·cases h; rw [if_pos (by assumption), AV.ofL_toL _ (isList_bytesFrom m n 0)]
  ·cases h
 | nilslice => simp only [srcM] at h; simp only [srcCells]; exact hs.first h
 | slice p off a b => simp only [srcM] at h; simp only [srcCells]; exact hs.first h
 | oslice p off a b => simp only [srcM] at h; simp only [srcCells]; exact hs.first h
 | _ => cases h
theorem Sees.append (hs : Sees H M) {size n : Nat} {new : List AV} {x v : AV} (h : appendM M size n new x = some (v, M')) :
  ∃ H', appendC H size n (AV.ofL new) x = some (v, H') ∧ Sees H' M' := by
 cases x with
 | nilslice =>
  simp only [appendM] at h
  simp only [appendC]
  split at h
  ·cases h; rw [if_pos (by assumption)]; exact ⟨H, rfl, hs⟩
  ·rw [if_neg (by assumption)]
   split at h
   ·rw [if_pos (by assumption)]
    obtain ⟨⟨p, M1⟩, h1, h2⟩ := Option.map_eq_some_iff.1 h
    cases h2
    obtain ⟨H', e, hs'⟩ := hs.row h1
    exact ⟨H', by simp [e], hs'⟩
   ·cases h
 | slice p off len cap =>
  simp only [appendM] at h
  simp only [appendC, AV.len_ofL]
  split at h
  ·rw [if_pos (by assumption)]
   split at h
   ·cases h; rw [if_pos (by assumption)]; exact ⟨H, rfl, hs⟩
   ·rw [if_neg (by assumption)]
    obtain ⟨M1, h1, h2⟩ := Option.map_eq_some_iff.1 h
    cases h2
    obtain ⟨H', e, hs'⟩ := hs.store h1
    exact ⟨H', by simp [e], hs'⟩
  ·rw [if_neg (by assumption)]
   split at h
   ·rw [if_pos (by assumption)]
    split at h
    ·rename_i old ho
     obtain ⟨⟨q, M1⟩, h1, h2⟩ := Option.map_eq_some_iff.1 h
     cases h2
     obtain ⟨H', e, hs'⟩ := hs.row h1
     exact ⟨H', by simp [hs.first ho, AV.app_ofL, e], hs'⟩
    ·cases h
   ·cases h
 | oslice p off len s =>
  simp only [appendM] at h
  simp only [appendC, AV.len_ofL]
  split at h
  ·cases h
  ·rw [if_neg (by assumption)]
   split at h
   ·rename_i l hp
    obtain ⟨hlt, o, ho, hr⟩ := hs.at_ _ _ hp
    cases o with
    | cells t m op' =>
     obtain ⟨h1, h2, h3⟩ := hr
     subst h1; subst h2
     rw [ho]
     simp only
     split at h
     ·rw [if_pos (by assumption)]
      split at h
      ·cases h; rw [if_pos (by assumption)]; exact ⟨H, rfl, hs⟩
      ·rw [if_neg (by assumption)]
       obtain ⟨M1, h1, h2⟩ := Option.map_eq_some_iff.1 h
       cases h2
       obtain ⟨H', e, hs'⟩ := hs.store h1
       exact ⟨H', by simp [e], hs'⟩
     ·rw [if_neg (by assumption)]
      split at h
      ·rename_i hc
       rw [if_pos hc]
       obtain ⟨⟨q, M1⟩, h1, h2⟩ := Option.map_eq_some_iff.1 h
       cases h2
       have hd : Sees (H.put p .dead) (M.put p .dead) := hs.put hlt trivial
       obtain ⟨H', e, hs'⟩ := hd.row h1
       refine ⟨H', ?_, hs'⟩
       have : cellsFrom t off (len * s) = some (AV.ofL ((l.drop off).take (len * s))) := by
        rename_i hsz _ _
        have hsz : s = size := by simpa using hsz
        refine cellsFrom_some _ _ _ (fun i hi => ?_) ?_
        ·rw [h3 _ (by rw [hsz] at hi; omega), List.getElem?_take_of_lt hi, List.getElem?_drop]
        ·simp; rw [hsz]; omega
       rename_i hsz _ _
       have hsz : s = size := by simpa using hsz
       rw [hsz] at this
       simp [this, AV.app_ofL, e]
      ·cases h
    | _ => exact hr.elim
   ·cases h
 | _ => cases h
theorem Sees.putAt (hs : Sees H M) {dst : AV} {cs : List AV} (h : putAtM M dst cs = some M') : ∃ H', putAt H dst (AV.ofL cs) = some H' ∧ Sees H' M' := by
 unfold putAtM at h
 unfold Dx.putAt
 rw [AV.len_ofL]
 split at h
 ·rw [if_pos (by assumption)]
  cases dst <;> first | (cases h; exact ⟨H, rfl, hs⟩) | cases h
 ·rw [if_neg (by assumption)]
  cases dst with
  | slice p off a b => exact hs.store h
  | oslice p off a b =>
   simp only at h ⊢
   split at h
   ·cases h
   ·rw [if_neg (by assumption)]; exact hs.store h
  | _ => cases h
theorem Sees.mapLook (hs : Sees H M) {k : EK} {x m : AV} {r : Option AV} (h : mapLookM M k x m = some r) : mapLook H k x m = some r := by
 cases m with
 | nilmap => exact h
 | map p =>
  simp only [mapLookM] at h
  split at h
  ·rename_i es c hp
   obtain ⟨_, o, ho, hr⟩ := hs.at_ _ _ hp
   cases o with
   | map es' c' => obtain ⟨rfl, rfl⟩ := hr; simp only [Dx.mapLook, ho]; exact h
   | _ => exact hr.elim
  ·cases h
 | _ => cases h
theorem Sees.mapPut (hs : Sees H M) {k : EK} {x v m : AV} (h : mapPutM M k x v m = some M') : ∃ H', mapPut H k x v m = some H' ∧ Sees H' M' := by
 cases m with
 | map p =>
  simp only [mapPutM] at h
  split at h
  ·rename_i es c hp
   obtain ⟨hlt, o, ho, hr⟩ := hs.at_ _ _ hp
   cases o with
   | map es' c' =>
    obtain ⟨rfl, rfl⟩ := hr
    obtain ⟨⟨es2, fr⟩, h1, h2⟩ := Option.map_eq_some_iff.1 h
    cases h2
    exact ⟨_, by simp only [Dx.mapPut, ho, h1]; rfl, hs.put (o := .map es2 (if fr = true then c' + 1 else c')) hlt ⟨rfl, rfl⟩⟩
   | _ => exact hr.elim
  ·cases h
 | _ => cases h
theorem Sees.mapDel (hs : Sees H M) {k : EK} {x m : AV} (h : mapDelM M k x m = some M') : ∃ H', mapDel H k x m = some H' ∧ Sees H' M' := by
 cases m with
 | nilmap => cases h; exact ⟨H, rfl, hs⟩
 | map p =>
  simp only [mapDelM] at h
  split at h
  ·rename_i es c hp
   obtain ⟨hlt, o, ho, hr⟩ := hs.at_ _ _ hp
   cases o with
   | map es' c' =>
    obtain ⟨rfl, rfl⟩ := hr
    obtain ⟨es2, h1, h2⟩ := Option.map_eq_some_iff.1 h
    cases h2
    exact ⟨_, by simp only [Dx.mapDel, ho, h1]; rfl, hs.put (o := .map es2 c') hlt ⟨rfl, rfl⟩⟩
   | _ => exact hr.elim
  ·cases h
 | _ => cases h
theorem Sees.eq (hs : Sees H M) {k : EK} {a b : AV} {r : Bool} (h : eqM M k a b = some r) : eqA H k a b = some r := by
 cases k with
 | ptr =>
  cases a <;> cases b <;> first | exact h | skip
  rename_i p o q u
  simp only [eqM] at h
  simp only [eqA]
  split at h
  ·rw [if_pos (by assumption)]; exact h
  ·rw [if_neg (by assumption)]
   split at h
   ·rename_i hc
    simp only [Bool.and_eq_true] at hc
    rw [if_pos (by simp [hs.closed hc.1, hs.closed hc.2])]; exact h
   ·cases h
 | leaf l => exact h
 | flat l => cases a <;> cases b <;> exact h
 | _ => cases a <;> cases b <;> exact h
theorem Sees.openSize (hs : Sees H M) {p : Pos} {n : Nat} (h : M.openSize p = some n) : ∃ t, H.get p = some (.cells t n true) := by
 unfold Mem.openSize at h
 split at h
 ·rename_i l hp
  cases h
  obtain ⟨_, o, ho, hr⟩ := hs.at_ _ _ hp
  cases o with
  | cells t m op' => obtain ⟨rfl, rfl, _⟩ := hr; exact ⟨t, ho⟩
  | _ => exact hr.elim
 ·cases h
end
end Go.Dx
