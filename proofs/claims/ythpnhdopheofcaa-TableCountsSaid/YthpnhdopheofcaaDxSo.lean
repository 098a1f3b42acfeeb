import Derived.Test.YthpnhdopheofcaaDxLy
set_option linter.unusedSimpArgs false
set_option linter.unusedVariables false
namespace Go.Dx
abbrev Tag := Nat × Int
abbrev Own := Pos → Option Tag
def Own.in (own : Own) (M : Mem) : Prop := ∀ p, own p ≠ none → p.num < M.next.num
def OwnUp (t : Tag) (M M' : Mem) (own own' : Own) : Prop := ∀ p, own' p = own p ∨ (own p = none ∧ own' p = some t ∧ M.next.num ≤ p.num ∧ p.num < M'.next.num)
theorem OwnUp.refl (t : Tag) (M M' : Mem) (own : Own) : OwnUp t M M' own own := fun _ => .inl rfl
theorem OwnUp.old {t : Tag} {M M' : Mem} {own own' : Own} (h : OwnUp t M M' own own') {p : Pos} {s : Tag} (hp : own p = some s) : own' p = some s := by
  rcases h p with e | ⟨e, _⟩
  · rw [e, hp]
  · rw [hp] at e; cases e
theorem OwnUp.other {t : Tag} {M M' : Mem} {own own' : Own} (h : OwnUp t M M' own own') {p : Pos} {s : Tag} (hs : s ≠ t) (hp : own' p = some s) : own p = some s := by
  rcases h p with e | ⟨_, e, _⟩
  · rw [← e, hp]
  · rw [hp] at e; cases e; exact absurd rfl hs
theorem OwnUp.none_ {t : Tag} {M M' : Mem} {own own' : Own} (h : OwnUp t M M' own own') {p : Pos} (hp : own p = none) (hlt : p.num < M.next.num) : own' p = none := by
  rcases h p with e | ⟨_, _, e, _⟩
  · rw [e, hp]
  · omega
theorem OwnUp.in_ {t : Tag} {M M' : Mem} {own own' : Own} (h : OwnUp t M M' own own') (hi : own.in M) (hn : M.next.num ≤ M'.next.num) : own'.in M' := by
  intro p hp
  rcases h p with e | ⟨_, _, _, e⟩
  · rw [e] at hp; have := hi p hp; omega
  · exact e
def SlO (M : Mem) (own : Own) (t : Tag) (v : AV) (size : Nat) (L : List (List AV)) : Prop :=
  (∀ x ∈ L, x.length = size ∧ x.all isCell = true) ∧
  ((v = .nilslice ∧ L = []) ∨ (∃ p, v = .slice p 0 0 0 ∧ L = []) ∨
   ∃ p pre rest op, own p = some t ∧ M.get p = some (.cells (pre ++ L.flatten ++ rest) op) ∧ (pre.all isCell = true ∧ rest.all isCell = true) ∧
     ((op = true ∧ v = .oslice p pre.length L.length size) ∨ ∃ cap, v = .slice p pre.length L.length cap ∧ L.length ≤ cap ∧ rest.length = (cap - L.length) * size))
theorem SlO.len {M : Mem} {own : Own} {t : Tag} {v : AV} {size : Nat} {L : List (List AV)} (h : SlO M own t v size L) : slLen v = some L.length := by
  obtain ⟨_, ⟨rfl, rfl⟩ | ⟨p, rfl, rfl⟩ | ⟨p, pre, rest, op, _, _, _, ⟨_, rfl⟩ | ⟨cap, rfl, _⟩⟩⟩ := h <;> rfl
theorem SlO.len' {M : Mem} {own : Own} {t : Tag} {v : AV} {size : Nat} {L : List (List AV)} (h : SlO M own t v size L) : lenOf v = some L.length := by
  obtain ⟨_, ⟨rfl, rfl⟩ | ⟨p, rfl, rfl⟩ | ⟨p, pre, rest, op, _, _, _, ⟨_, rfl⟩ | ⟨cap, rfl, _⟩⟩⟩ := h <;> rfl
theorem SlO.cell {M : Mem} {own : Own} {t : Tag} {v : AV} {size : Nat} {L : List (List AV)} (h : SlO M own t v size L) : isCell v = true := by
  obtain ⟨_, ⟨rfl, rfl⟩ | ⟨p, rfl, rfl⟩ | ⟨p, pre, rest, op, _, _, _, ⟨_, rfl⟩ | ⟨cap, rfl, _⟩⟩⟩ := h <;> rfl
theorem SlO.cells {M : Mem} {own : Own} {t : Tag} {v : AV} {size : Nat} {L : List (List AV)} (h : SlO M own t v size L) : ∀ y ∈ L, y.all isCell = true := fun y hy => (h.1 y hy).2
theorem SlO.size {M : Mem} {own : Own} {t : Tag} {v : AV} {size : Nat} {L : List (List AV)} (h : SlO M own t v size L) : ∀ y ∈ L, y.length = size := fun y hy => (h.1 y hy).1
theorem SlO.nil (M : Mem) (own : Own) (t : Tag) (size : Nat) : SlO M own t .nilslice size [] := ⟨fun _ h => (by cases h), .inl ⟨rfl, rfl⟩⟩
theorem SlO.none_ (M : Mem) (own : Own) (t : Tag) (size : Nat) (p : Pos) : SlO M own t (.slice p 0 0 0) size [] := ⟨fun _ h => (by cases h), .inr (.inl ⟨p, rfl, rfl⟩)⟩
theorem SlO.keep {M M' : Mem} {own own' : Own} {t : Tag} {v : AV} {size : Nat} {L : List (List AV)} (h : SlO M own t v size L) (hm : ∀ p b, own p = some t → M.get p = some b → M'.get p = some b) (ho : ∀ p, own p = some t → own' p = some t) : SlO M' own' t v size L := by
  obtain ⟨h1, ⟨rfl, rfl⟩ | ⟨p, rfl, rfl⟩ | ⟨p, pre, rest, op, h2, h3, h4, h5⟩⟩ := h
  · exact SlO.nil _ _ _ _
  · exact SlO.none_ _ _ _ _ _
  · exact ⟨h1, .inr (.inr ⟨p, pre, rest, op, ho p h2, hm p _ h2 h3, h4, h5⟩)⟩
theorem flat_split {L : List (List AV)} {size i : Nat} (h : ∀ x ∈ L, x.length = size) (hi : i ≤ L.length) : (L.take i).flatten.length = i * size := by
  rw [flatten_len (fun x hx => h x (List.mem_of_mem_take hx))]; simp; rw [Nat.min_eq_left hi]
theorem flat_at {L : List (List AV)} {i : Nat} (hi : i < L.length) : L.flatten = (L.take i).flatten ++ L[i] ++ (L.drop (i + 1)).flatten := by
  conv => lhs; rw [← List.take_append_drop i L]
  rw [List.flatten_append, List.drop_eq_getElem_cons hi, List.flatten_cons, List.append_assoc]
theorem window (pre mid post : List AV) : ((pre ++ mid ++ post).drop pre.length).take mid.length = mid := by
  rw [List.append_assoc, List.drop_left, List.take_left]
theorem cellsAt_window {b : Option MB} {pre mid post : List AV} {op : Bool} {o n : Nat} (h : b = some (.cells (pre ++ mid ++ post) op)) (ho : o = pre.length) (hn : n = mid.length) : MB.cellsAt b o n = some mid := by
  subst h ho hn
  simp only [MB.cellsAt]
  rw [if_pos (by simp only [List.length_append]; omega), window]
theorem over_window {pre mid post vs : List AV} {o : Nat} (ho : o = pre.length) (hn : vs.length = mid.length) : overL (pre ++ mid ++ post) o vs = pre ++ vs ++ post := by
  subst ho
  have e1 : (pre ++ mid ++ post).take pre.length = pre := by rw [List.append_assoc, List.take_left]
  have e2 : (pre ++ mid ++ post).drop (pre.length + vs.length) = post := by rw [hn, ← List.length_append, List.drop_left]
  unfold overL
  rw [e1, e2]
theorem SlO.rows {M : Mem} {own : Own} {t : Tag} {v : AV} {size : Nat} {L : List (List AV)} (h : SlO M own t v size L) : SlIs M v size L := by
  have hs := h.size
  have hl := h.len
  obtain ⟨h1, ⟨rfl, rfl⟩ | ⟨p, rfl, rfl⟩ | ⟨p, pre, rest, op, h2, h3, h4, h5⟩⟩ := h
  · exact SlIs.nil _ _
  · exact ⟨rfl, fun _ h => (by cases h), fun h => absurd rfl h⟩
  · have key : ∀ i, i < L.length → MB.cellsAt (M.get p) (pre.length + i * size) size = L[i]? := by
      intro i hi
      rw [List.getElem?_eq_getElem hi]
      refine cellsAt_window (pre := pre ++ (L.take i).flatten) (post := (L.drop (i + 1)).flatten ++ rest) (op := op) ?_ ?_ (hs _ (List.getElem_mem hi)).symm
      · rw [h3, flat_at hi]; simp only [List.append_assoc]
      · rw [List.length_append, flat_split hs (by omega)]
    rcases h5 with ⟨_, rfl⟩ | ⟨cap, rfl, _⟩
    · exact ⟨hl, hs, fun _ => ⟨p, pre.length, rfl, key⟩⟩
    · exact ⟨hl, hs, fun _ => ⟨p, pre.length, rfl, key⟩⟩
theorem SlO.own_ {M : Mem} {own : Own} {t : Tag} {v : AV} {size : Nat} {L : List (List AV)} (h : SlO M own t v size L) (hne : L ≠ []) {p : Pos} {o n : Nat} (hp : slAt v = some (p, o, n)) : own p = some t := by
  obtain ⟨h1, ⟨rfl, rfl⟩ | ⟨q, rfl, rfl⟩ | ⟨q, pre, rest, op, h2, h3, h4, h5⟩⟩ := h
  · exact absurd rfl hne
  · exact absurd rfl hne
  · rcases h5 with ⟨_, rfl⟩ | ⟨cap, rfl, _⟩ <;> (cases hp; exact h2)
theorem SlO.set_ {M : Mem} {own : Own} {t : Tag} {v : AV} {size : Nat} {L : List (List AV)} (h : SlO M own t v size L) {i : Nat} (hi : i < L.length) {x : List AV} (hx : x.length = size) (hc : x.all isCell = true) {p : Pos} {o n : Nat} (hp : slAt v = some (p, o, n)) :
    ∃ b, M.store p (o + i * size) x = some (M.put p b) ∧ own p = some t ∧ (∃ b0, M.get p = some b0) ∧ SlO (M.put p b) own t v size (L.set i x) := by
  have hs := h.size
  have hcl := h.cells
  have hown := h.own_ (fun e => by rw [e] at hi; simp at hi) hp
  obtain ⟨h1, ⟨rfl, rfl⟩ | ⟨q, rfl, rfl⟩ | ⟨q, pre, rest, op, h2, h3, h4, h5⟩⟩ := h
  · simp at hi
  · simp at hi
  · have hq : p = q ∧ o = pre.length := by rcases h5 with ⟨_, rfl⟩ | ⟨cap, rfl, _⟩ <;> (cases hp; exact ⟨rfl, rfl⟩)
    obtain ⟨rfl, rfl⟩ := hq
    have e1 : pre ++ L.flatten ++ rest = (pre ++ (L.take i).flatten) ++ L[i] ++ ((L.drop (i + 1)).flatten ++ rest) := by rw [flat_at hi]; simp only [List.append_assoc]
    have e2 : pre ++ (L.set i x).flatten ++ rest = (pre ++ (L.take i).flatten) ++ x ++ ((L.drop (i + 1)).flatten ++ rest) := by
      have hi' : i < (L.set i x).length := by simpa using hi
      rw [flat_at hi', List.getElem_set_self, List.take_set_of_le (by omega), List.drop_set_of_lt (by omega)]
      simp only [List.append_assoc]
    have hlen : (pre ++ (L.take i).flatten).length = pre.length + i * size := by rw [List.length_append, flat_split hs (by omega)]
    refine ⟨.cells (pre ++ (L.set i x).flatten ++ rest) op, ?_, hown, ⟨_, h3⟩, ⟨fun y hy => ?_, .inr (.inr ⟨p, pre, rest, op, h2, by simp [Mem.put], h4, ?_⟩)⟩⟩
    · unfold Mem.store
      rw [h3]
      simp only
      rw [if_pos ⟨by rw [e1]; simp only [List.length_append] at hlen ⊢; have := hs _ (List.getElem_mem hi); omega, hc⟩, e1, over_window hlen.symm (by rw [hx, hs _ (List.getElem_mem hi)]), e2]
    · rcases List.mem_or_eq_of_mem_set hy with h | rfl
      · exact h1 y h
      · exact ⟨hx, hc⟩
    · simpa using h5
theorem SlO.take_ {M : Mem} {own : Own} {t : Tag} {v : AV} {size : Nat} {L : List (List AV)} (h : SlO M own t v size L) (hs0 : 0 < size) {k : Nat} (hk : k ≤ L.length) : ∃ v', sliceM M size none (some k) none v = some v' ∧ SlO M own t v' size (L.take k) := by
  have hs := h.size
  obtain ⟨h1, ⟨rfl, rfl⟩ | ⟨q, rfl, rfl⟩ | ⟨q, pre, rest, op, h2, h3, h4, h5⟩⟩ := h
  · simp at hk; subst hk
    exact ⟨.nilslice, rfl, SlO.nil _ _ _ _⟩
  · simp at hk; subst hk
    exact ⟨.slice q 0 0 0, rfl, SlO.none_ _ _ _ _ _⟩
  · have hfl : (pre ++ (L.take k).flatten ++ ((L.drop k).flatten ++ rest)) = pre ++ L.flatten ++ rest := by
      conv => rhs; rw [← List.take_append_drop k L]
      simp only [List.flatten_append, List.append_assoc]
    have hall : (L.drop k).flatten.all isCell = true := by
      rw [List.all_eq_true]
      intro a ha
      obtain ⟨y, hy, hay⟩ := List.mem_flatten.1 ha
      exact List.all_eq_true.1 (h1 y (List.mem_of_mem_drop hy)).2 a hay
    have hdl : (L.drop k).flatten.length = (L.length - k) * size := by rw [flatten_len (fun x hx => hs x (List.mem_of_mem_drop hx))]; simp
    have htl : (L.take k).length = k := by simp; omega
    have h1' : ∀ x ∈ L.take k, x.length = size ∧ x.all isCell = true := fun x hx => h1 x (List.mem_of_mem_take hx)
    rcases h5 with ⟨rfl, rfl⟩ | ⟨cap, rfl, h6, h7⟩
    · have hlen := flatten_len hs
      have hcap : L.length ≤ ((pre ++ L.flatten ++ rest).length - pre.length) / size := by
        rw [Nat.le_div_iff_mul_le hs0]
        simp only [List.length_append]; omega
      refine ⟨.oslice q pre.length k size, ?_, h1', .inr (.inr ⟨q, pre, (L.drop k).flatten ++ rest, true, h2, by rw [hfl]; exact h3, ⟨h4.1, by rw [List.all_append, hall, h4.2]; rfl⟩, .inl ⟨rfl, by rw [htl]⟩⟩)⟩
      have ho : M.openSize q = some (pre ++ L.flatten ++ rest).length := by unfold Mem.openSize; rw [h3]
      have hb : sliceBounds L.length (((pre ++ L.flatten ++ rest).length - pre.length) / size) none (some k) none = some (0, k, ((pre ++ L.flatten ++ rest).length - pre.length) / size) := by
        unfold sliceBounds
        simp only [Option.getD_none, Option.getD_some]
        rw [if_pos ⟨Nat.le_refl _, by omega, Nat.zero_le _⟩]
      simp only [sliceM, ho]
      rw [if_neg (by simp), hb]
      simp
    · have hb : sliceBounds L.length cap none (some k) none = some (0, k, cap) := by
        unfold sliceBounds
        simp only [Option.getD_none, Option.getD_some]
        rw [if_pos ⟨Nat.le_refl _, by omega, Nat.zero_le _⟩]
      by_cases hc : cap = 0
      · subst hc
        have hk0 : k = 0 := by omega
        subst hk0
        refine ⟨.slice q pre.length 0 0, ?_, h1', .inr (.inr ⟨q, pre, (L.drop 0).flatten ++ rest, op, h2, by rw [hfl]; exact h3, ⟨h4.1, by rw [List.all_append, hall, h4.2]; rfl⟩, .inr ⟨0, by simp, by simp, ?_⟩⟩)⟩
        · simp only [sliceM, hb]; simp
        · have : L.length = 0 := by omega
          rw [List.length_append, hdl, h7, this]; simp
      · refine ⟨.slice q pre.length k cap, ?_, h1', .inr (.inr ⟨q, pre, (L.drop k).flatten ++ rest, op, h2, by rw [hfl]; exact h3, ⟨h4.1, by rw [List.all_append, hall, h4.2]; rfl⟩, .inr ⟨cap, by rw [htl], by rw [htl]; omega, ?_⟩⟩)⟩
        · simp only [sliceM, hb]; simp [hc]
        · rw [List.length_append, hdl, h7, htl, ← Nat.add_mul]
          congr 1; omega
theorem all_flat {X : List (List AV)} (h : ∀ y ∈ X, y.all isCell = true) : X.flatten.all isCell = true := by
  rw [List.all_eq_true]
  intro a ha
  obtain ⟨y, hy, hay⟩ := List.mem_flatten.1 ha
  exact List.all_eq_true.1 (h y hy) a hay
def Own.with (own : Own) (p : Pos) (t : Tag) : Own := fun q => if q = p then some t else own q
theorem ownUp_new {t : Tag} {M M' : Mem} {own : Own} (hi : own.in M) (hn : M'.next = M.next.succ) : OwnUp t M M' own (own.with M.next t) := by
  intro p
  unfold Own.with
  split
  · rename_i e
    subst e
    refine .inr ⟨?_, rfl, Nat.le_refl _, by rw [hn, Pos.num_succ]; omega⟩
    cases h : own M.next with
    | none => rfl
    | some s => have := hi M.next (by rw [h]; simp); omega
  · exact .inl rfl
theorem SlO.append_ {M : Mem} {own : Own} {t : Tag} {v : AV} {size : Nat} {L X : List (List AV)} (h : SlO M own t v size L) (hw : M.wf) (hi : own.in M) (hx : ∀ x ∈ X, x.length = size ∧ x.all isCell = true) (hs0 : 0 < size) (hm : L.length + X.length ≤ most) :
    ∃ v' M' own', appendM M size X.length X.flatten v = some (v', M') ∧ SlO M' own' t v' size (L ++ X) ∧ OwnUp t M M' own own' ∧ But (fun p => own p = some t) M M' ∧ M'.wf := by
  have hs := h.size
  have hfx := flatten_len (fun x h => (hx x h).1)
  have hcx := all_flat (fun x h => (hx x h).2)
  have hcl := all_flat h.cells
  have hfl := flatten_len hs
  have hLX : ∀ x ∈ L ++ X, x.length = size ∧ x.all isCell = true := fun x hm => by
    rcases List.mem_append.1 hm with h' | h'
    · exact ⟨hs x h', h.cells x h'⟩
    · exact hx x h'
  have fresh : ∀ (M1 : Mem), M1.next = M.next → SlO (M1.new (.cells (L.flatten ++ X.flatten) true)) (own.with M.next t) t (.oslice M.next 0 (L.length + X.length) size) size (L ++ X) := fun M1 h1 =>
    ⟨hLX, .inr (.inr ⟨M.next, [], [], true, by simp [Own.with], by simp [Mem.new, h1], ⟨rfl, rfl⟩, .inl ⟨rfl, by simp⟩⟩)⟩
  by_cases hX0 : X = []
  · subst hX0
    have hl := h.len
    refine ⟨v, M, own, ?_, by simpa using h, OwnUp.refl _ _ _ _, But.refl _ _, hw⟩
    obtain ⟨h1, ⟨rfl, rfl⟩ | ⟨q, rfl, rfl⟩ | ⟨q, pre, rest, op, h2, h3, h4, ⟨rfl, rfl⟩ | ⟨cap, rfl, h6, h7⟩⟩⟩ := h
    · rfl
    · simp [appendM]
    · simp only [appendM, h3]
      rw [if_neg (by simp), if_pos (by simp only [List.length_append, List.length_nil, Nat.add_zero]; omega)]
      simp
    · simp only [appendM]
      rw [if_pos (by simpa using h6)]
      simp
  have hX1 : 0 < X.length := List.length_pos_iff.2 hX0
  have hXs : 0 < X.length * size := Nat.mul_pos hX1 hs0
  have hne : ¬ X.flatten.length = 0 := by omega
  obtain ⟨h1, ⟨rfl, rfl⟩ | ⟨q, rfl, rfl⟩ | ⟨q, pre, rest, op, h2, h3, h4, h5⟩⟩ := h
  · refine ⟨.oslice M.next 0 X.length size, M.new (.cells X.flatten true), own.with M.next t, ?_, by simpa using fresh M rfl, ownUp_new hi rfl, But.new hw _, hw.new _⟩
    simp only [appendM]
    rw [if_neg (by omega), if_pos (by simpa using hm)]
    simp only [Mem.row]
    rw [if_pos hcx]; rfl
  · refine ⟨.oslice M.next 0 X.length size, M.new (.cells X.flatten true), own.with M.next t, ?_, by simpa using fresh M rfl, ownUp_new hi rfl, But.new hw _, hw.new _⟩
    simp only [appendM]
    rw [if_neg (by omega), if_pos (by simpa using hm)]
    simp only [firstM, Nat.zero_mul, if_true, List.nil_append, Mem.row]
    rw [if_pos hcx]; simp
  · have hlt := hw _ _ h3
    have inplace : X.length * size ≤ rest.length → ∃ b rest', rest = rest.take (X.length * size) ++ rest' ∧ rest'.length = rest.length - X.length * size ∧ rest'.all isCell = true ∧ M.store q (pre.length + L.length * size) X.flatten = some (M.put q b) ∧ b = .cells (pre ++ (L ++ X).flatten ++ rest') op := fun hle => by
      refine ⟨_, rest.drop (X.length * size), (List.take_append_drop _ _).symm, by simp, ?_, ?_, rfl⟩
      · rw [List.all_eq_true]; exact fun a ha => List.all_eq_true.1 h4.2 a (List.mem_of_mem_drop ha)
      · have e1 : pre ++ L.flatten ++ rest = (pre ++ L.flatten) ++ rest.take (X.length * size) ++ rest.drop (X.length * size) := by rw [List.append_assoc (pre ++ L.flatten), List.take_append_drop]
        unfold Mem.store
        rw [h3]
        simp only
        rw [if_pos ⟨by simp only [List.length_append]; omega, hcx⟩, e1, over_window (by rw [List.length_append, hfl]) (by rw [hfx]; simp; omega)]
        simp only [List.flatten_append, List.append_assoc]
    rcases h5 with ⟨rfl, rfl⟩ | ⟨cap, rfl, h6, h7⟩
    · by_cases hroom : X.length * size ≤ rest.length
      · obtain ⟨b, rest', e1, e2, e3, e4, rfl⟩ := inplace hroom
        refine ⟨.oslice q pre.length (L.length + X.length) size, M.put q (.cells (pre ++ (L ++ X).flatten ++ rest') true), own, ?_, ⟨hLX, .inr (.inr ⟨q, pre, rest', true, h2, by simp [Mem.put], ⟨h4.1, e3⟩, .inl ⟨rfl, by simp⟩⟩)⟩, OwnUp.refl _ _ _ _, But.put (p := q) _ h2 _, hw.put h3 _⟩
        simp only [appendM, h3]
        rw [if_neg (by simp), if_pos (by simp only [List.length_append, Nat.add_mul]; omega), if_neg hne, e4]; rfl
      · refine ⟨.oslice M.next 0 (L.length + X.length) size, (M.put q .dead).new (.cells (L.flatten ++ X.flatten) true), own.with M.next t, ?_, fresh _ rfl, ownUp_new hi rfl, (But.put (p := q) _ h2 _).trans (But.new (hw.put h3 _) _), (hw.put h3 _).new _⟩
        simp only [appendM, h3]
        rw [if_neg (by simp), if_neg (by simp only [List.length_append, Nat.add_mul]; omega), if_pos ⟨hm, by simp only [List.length_append]; omega⟩]
        have : ((pre ++ L.flatten ++ rest).drop pre.length).take (L.length * size) = L.flatten := by rw [← hfl]; exact window _ _ _
        rw [this]
        simp only [Mem.row]
        rw [if_pos (by rw [List.all_append, hcl, hcx]; rfl)]; rfl
    · by_cases hroom : L.length + X.length ≤ cap
      · have hr : X.length * size ≤ rest.length := by rw [h7]; exact Nat.mul_le_mul_right _ (by omega)
        obtain ⟨b, rest', e1, e2, e3, e4, rfl⟩ := inplace hr
        refine ⟨.slice q pre.length (L.length + X.length) cap, M.put q (.cells (pre ++ (L ++ X).flatten ++ rest') op), own, ?_, ⟨hLX, .inr (.inr ⟨q, pre, rest', op, h2, by simp [Mem.put], ⟨h4.1, e3⟩, .inr ⟨cap, by simp, by simpa using hroom, ?_⟩⟩)⟩, OwnUp.refl _ _ _ _, But.put (p := q) _ h2 _, hw.put h3 _⟩
        · simp only [appendM]
          rw [if_pos hroom, if_neg hne, e4]; rfl
        · rw [e2, h7, ← Nat.sub_mul]; congr 1; simp; omega
      · refine ⟨.oslice M.next 0 (L.length + X.length) size, M.new (.cells (L.flatten ++ X.flatten) true), own.with M.next t, ?_, fresh M rfl, ownUp_new hi rfl, But.new hw _, hw.new _⟩
        simp only [appendM]
        rw [if_neg hroom, if_pos hm]
        have hf : firstM M size L.length (.slice q pre.length L.length cap) = some L.flatten := by
          simp only [firstM]
          by_cases hL0 : L.length * size = 0
          · rw [if_pos hL0, List.length_eq_zero_iff.1 (hfl.trans hL0)]
          · rw [if_neg hL0]
            exact cellsAt_window (b := M.get q) (by rw [h3]) rfl hfl.symm
        rw [hf]
        simp only [Mem.row]
        rw [if_pos (by rw [List.all_append, hcl, hcx]; rfl)]; rfl
theorem cellsAt_append {b : Option MB} {o m n : Nat} {x y : List AV} (h1 : MB.cellsAt b o m = some x) (h2 : MB.cellsAt b (o + m) n = some y) : MB.cellsAt b o (m + n) = some (x ++ y) := by
  have go : ∀ (l : List AV), (if o + m ≤ l.length then some ((l.drop o).take m) else none) = some x → (if o + m + n ≤ l.length then some ((l.drop (o + m)).take n) else none) = some y → (if o + (m + n) ≤ l.length then some ((l.drop o).take (m + n)) else none) = some (x ++ y) := by
    intro l k1 k2
    split at k1
    · split at k2
      · cases k1; cases k2
        rw [if_pos (by omega), List.take_add, List.drop_drop]
      · cases k2
    · cases k1
  cases b with
  | none => cases h1
  | some b =>
    cases b with
    | cells l op => exact go l h1 h2
    | ro l => exact go l h1 h2
    | _ => cases h1
theorem rows_flat {b : Option MB} {size : Nat} : ∀ {L : List (List AV)} {o : Nat}, L ≠ [] → (∀ i, i < L.length → MB.cellsAt b (o + i * size) size = L[i]?) → MB.cellsAt b o (L.length * size) = some L.flatten
  | [], _, h, _ => absurd rfl h
  | [x], o, _, h => by
    have := h 0 (by simp)
    simpa using this
  | x :: y :: r, o, _, h => by
    have h0 : MB.cellsAt b o size = some x := by have := h 0 (by simp); simpa using this
    have ih := rows_flat (b := b) (size := size) (L := y :: r) (o := o + size) (by simp) fun i hi => by
      have := h (i + 1) (by simpa using hi)
      rw [Nat.succ_mul, ← Nat.add_assoc, Nat.add_right_comm] at this
      simpa using this
    have e : (x :: y :: r).length * size = size + (y :: r).length * size := by simp only [List.length_cons, Nat.succ_mul]; omega
    rw [e, List.flatten_cons]
    exact cellsAt_append h0 ih
theorem SlIs.src {M : Mem} {u : AV} {size : Nat} {X : List (List AV)} (h : SlIs M u size X) (hn : lenOf u = some X.length) (hns : ∀ l n, u ≠ .str l n) : srcM M size X.length u = some X.flatten := by
  obtain ⟨h1, h2, h3⟩ := h
  by_cases hX : X = []
  · subst hX
    cases u <;> simp only [slLen, reduceCtorEq] at h1
    all_goals first | (simp only [srcM, firstM, List.length_nil, Nat.zero_mul, if_true, List.flatten_nil]; done) | rfl | skip
  · obtain ⟨p, off, h4, h5⟩ := h3 hX
    have hf := rows_flat hX h5
    cases u <;> simp only [slAt, reduceCtorEq] at h4
    · cases h4
      simp only [srcM, firstM]
      by_cases h0 : X.length * size = 0
      · rw [if_pos h0]
        have := flatten_len h2
        rw [h0] at this
        rw [List.length_eq_zero_iff.1 this]
      · rw [if_neg h0]; exact hf
    · cases h4
      simp only [srcM, firstM]
      by_cases h0 : X.length * size = 0
      · rw [if_pos h0]
        have := flatten_len h2
        rw [h0] at this
        rw [List.length_eq_zero_iff.1 this]
      · rw [if_neg h0]; exact hf
theorem OwnUp.old0 {t : Tag} {M0 M M' : Mem} {own own' : Own} (h : OwnUp t M M' own own') (hn : M0.next.num ≤ M.next.num) : OwnUp t M0 M' own own' := fun p => by
  rcases h p with e | ⟨a, b, c, d⟩
  · exact .inl e
  · exact .inr ⟨a, b, by omega, d⟩
theorem SlO.push_ {M : Mem} {own : Own} {t : Tag} {v : AV} {size : Nat} {L X : List (List AV)} {n c : Nat} {x : List AV} (h : SlO M own t v size L) (hw : M.wf) (hi : own.in M) (hn : n = X.length) (hxx : x = X.flatten) (hx : ∀ x ∈ X, x.length = size ∧ x.all isCell = true) (hs0 : 0 < size) (hm : L.length + X.length ≤ most) :
    ∃ v' M' own', appO (M.new (.cells x false)) size v (.slice M.next 0 n c) = some (v', M') ∧ SlO M' own' t v' size (L ++ X) ∧ OwnUp t M M' own own' ∧ But (fun p => own p = some t) M M' ∧ M'.wf := by
  subst hn hxx
  have hb := But.new (S := fun _ => False) hw (.cells X.flatten false)
  have hw1 := hw.new (.cells X.flatten false)
  have hs1 : SlO (M.new (.cells X.flatten false)) own t v size L := h.keep (fun p b _ hp => hb.get p b id hp) fun _ h => h
  obtain ⟨v', M', own', h1, h2, h3, h4, h5⟩ := hs1.append_ hw1 (fun p hp => Nat.lt_of_lt_of_le (hi p hp) hb.next) hx hs0 hm
  refine ⟨v', M', own', ?_, h2, h3.old0 hb.next, (hb.mono fun _ h => h.elim).trans h4, h5⟩
  have hsrc : srcM (M.new (.cells X.flatten false)) size X.length (.slice M.next 0 X.length c) = some X.flatten :=
    (SlIs.made (X := X) (op := false) (by simp [Mem.new]) rfl (fun y hy => (hx y hy).1) rfl).src rfl (by simp)
  simp only [appO, lenOf_slice, Option.bind_some, hsrc]
  exact h1
theorem SlO.setCell {M : Mem} {own : Own} {t : Tag} {v : AV} {size : Nat} {L : List (List AV)} (h : SlO M own t v size L) {i j : Nat} (hi : i < L.length) (hj : j < size) {x : AV} (hc : isCell x = true) {p : Pos} {o n : Nat} (hp : slAt v = some (p, o, n)) :
    ∃ b, M.store p (o + i * size + j) [x] = some (M.put p b) ∧ own p = some t ∧ (∃ b0, M.get p = some b0) ∧ SlO (M.put p b) own t v size (L.set i (L[i].set j x)) := by
  have hs := h.size
  have hcl := h.cells
  have hli : L[i].length = size := hs _ (List.getElem_mem hi)
  have hown := h.own_ (fun e => by rw [e] at hi; simp at hi) hp
  have hrow : ∀ r : List AV, r ∈ L.set i (L[i].set j x) → r.length = size ∧ r.all isCell = true := fun r hr => by
    rcases List.mem_or_eq_of_mem_set hr with h' | rfl
    · exact ⟨hs r h', hcl r h'⟩
    · refine ⟨by simpa using hli, ?_⟩
      rw [List.all_eq_true]
      intro a ha
      rcases List.mem_or_eq_of_mem_set ha with h' | rfl
      · exact List.all_eq_true.1 (hcl _ (List.getElem_mem hi)) a h'
      · exact hc
  obtain ⟨h1, ⟨rfl, rfl⟩ | ⟨q, rfl, rfl⟩ | ⟨q, pre, rest, op, h2, h3, h4, h5⟩⟩ := h
  · simp at hi
  · simp at hi
  · have hq : p = q ∧ o = pre.length := by rcases h5 with ⟨_, rfl⟩ | ⟨cap, rfl, _⟩ <;> (cases hp; exact ⟨rfl, rfl⟩)
    obtain ⟨rfl, rfl⟩ := hq
    have hj' : j < L[i].length := by omega
    have r1 : L[i] = L[i].take j ++ [L[i][j]] ++ L[i].drop (j + 1) := by
      conv => lhs; rw [← List.take_append_drop j L[i], List.drop_eq_getElem_cons hj']
      simp
    have r2 : L[i].set j x = L[i].take j ++ [x] ++ L[i].drop (j + 1) := by rw [List.set_eq_take_append_cons_drop, if_pos hj']; simp
    have e1 : pre ++ L.flatten ++ rest = (pre ++ (L.take i).flatten ++ L[i].take j) ++ [L[i][j]] ++ (L[i].drop (j + 1) ++ (L.drop (i + 1)).flatten ++ rest) := by
      conv => lhs; rw [flat_at hi, r1]
      simp only [List.append_assoc]
    have e2 : pre ++ (L.set i (L[i].set j x)).flatten ++ rest = (pre ++ (L.take i).flatten ++ L[i].take j) ++ [x] ++ (L[i].drop (j + 1) ++ (L.drop (i + 1)).flatten ++ rest) := by
      have hi' : i < (L.set i (L[i].set j x)).length := by simpa using hi
      rw [flat_at hi', List.getElem_set_self, List.take_set_of_le (by omega), List.drop_set_of_lt (by omega), r2]
      simp only [List.append_assoc]
    have hlen : (pre ++ (L.take i).flatten ++ L[i].take j).length = pre.length + i * size + j := by
      rw [List.length_append, List.length_append, flat_split hs (by omega)]; simp; omega
    refine ⟨.cells (pre ++ (L.set i (L[i].set j x)).flatten ++ rest) op, ?_, hown, ⟨_, h3⟩, ⟨hrow, .inr (.inr ⟨p, pre, rest, op, h2, by simp [Mem.put], h4, by simpa using h5⟩)⟩⟩
    unfold Mem.store
    rw [h3]
    simp only
    rw [if_pos ⟨by rw [e1, List.length_append, List.length_append, hlen]; simp, by simp [hc]⟩, e1, over_window (mid := [L[i][j]]) hlen.symm (by simp), e2]
end Go.Dx
