import Derived.Test.YthpnhdopheofcaaDxLx
set_option linter.unusedSimpArgs false
set_option linter.unusedVariables false
namespace Go.Dx
theorem OwnSl.appends {M : Mem} {v : AV} {size : Nat} {L X : List (List AV)} (h : OwnSl M v size L) (hw : M.wf) (hx : ∀ x ∈ X, x.length = size) (hc : ∀ x ∈ X, x.all isCell = true) (hX : X ≠ []) (hs : 0 < size) (hm : L.length + X.length ≤ most) (hL : ∀ y ∈ L, y.all isCell = true) :
  ∃ v' M', appendM M size X.length X.flatten v = some (v', M') ∧ OwnSl M' v' size (L ++ X) ∧ But (ownP v) M M' ∧ M'.wf ∧ (∀ p, ownP v' p → M.next.num ≤ p.num) := by
 have hX0 : 0 < X.length := List.length_pos_iff.2 hX
 have hfx := flatten_len hx
 have hpos : 0 < X.length * size := Nat.mul_pos hX0 hs
 have hcx : X.flatten.all isCell = true := by
  rw [List.all_eq_true]
  intro a ha
  obtain ⟨y, hy, hay⟩ := List.mem_flatten.1 ha
  exact List.all_eq_true.1 (hc y hy) a hay
 obtain ⟨hr, ⟨rfl, rfl⟩ | ⟨p, rfl, hg, hne⟩⟩ := h
 ·refine ⟨.oslice M.next 0 X.length size, M.new (.cells X.flatten true), ?_, ⟨fun y hy => hx y (by simpa using hy), .inr ⟨M.next, ?_, ?_, by simpa using hX⟩⟩, But.new hw _, hw.new _, fun p hp => ?_⟩
  ·simp only [appendM]
   rw [if_neg (by omega), if_pos (by simpa using hm)]
   simp only [Mem.row]
   rw [if_pos hcx]; rfl
  ·simp
  ·simp [Mem.new]
  ·obtain ⟨n, s, e⟩ := hp; cases e; exact Nat.le_refl _
 ·have hlt := hw _ _ hg
  have hall : (L.flatten ++ X.flatten).all isCell = true := by
   rw [List.all_append, hcx, Bool.and_true, List.all_eq_true]
   intro a ha
   obtain ⟨y, hy, hay⟩ := List.mem_flatten.1 ha
   exact List.all_eq_true.1 (hL y hy) a hay
  refine ⟨.oslice M.next 0 (L.length + X.length) size, (M.put p .dead).new (.cells (L.flatten ++ X.flatten) true), ?_, ⟨fun y hy => ?_, .inr ⟨M.next, ?_, ?_, by simp [hX]⟩⟩, ?_, (hw.put hg _).new _, fun p hp => ?_⟩
  ·have hfl := flatten_len hr
   have hmul : (L.length + X.length) * size = L.length * size + X.length * size := Nat.add_mul _ _ _
   simp only [appendM, hg]
   rw [if_neg (by simp), if_neg (by rw [hmul]; omega), if_pos (by omega)]
   have : ((L.flatten.drop 0).take (L.length * size)) = L.flatten := by rw [List.drop_zero, List.take_of_length_le (by omega)]
   rw [this]
   simp only [Mem.row]
   rw [if_pos hall]; rfl
  ·rcases List.mem_append.1 hy with h | h
   ·exact hr y h
   ·exact hx y h
  ·simp
  ·show (if M.next = M.next then some (MB.cells (L.flatten ++ X.flatten) true) else _) = _
   rw [if_pos rfl]; simp
  ·refine ⟨by show M.next.num ≤ M.next.succ.num; rw [Pos.num_succ]; omega, fun q b hn hq => ?_⟩
   show (if q = M.next then _ else if q = p then _ else M.get q) = some b
   rw [if_neg (by rw [hw.ne hq]; exact id), if_neg (fun e => hn ⟨_, _, by rw [e]⟩)]; exact hq
  ·obtain ⟨n, s, e⟩ := hp; cases e; exact Nat.le_refl _
theorem OwnSl.push {M : Mem} {o : AV} {size : Nat} {L X : List (List AV)} {n c : Nat} {x : List AV} (hO : OwnSl M o size L) (hw : M.wf) (hn : n = X.length) (hxx : x = X.flatten) (hx : ∀ x ∈ X, x.length = size) (hc : ∀ x ∈ X, x.all isCell = true) (hX : X ≠ []) (hs : 0 < size) (hm : L.length + X.length ≤ most) (hL : ∀ y ∈ L, y.all isCell = true) :
  ∃ v' M', appO (M.new (.cells x false)) size o (.slice M.next 0 n c) = some (v', M') ∧ OwnSl M' v' size (L ++ X) ∧ But (ownP o) M M' ∧ M'.wf ∧ ∀ p, ownP v' p → M.next.num ≤ p.num := by
 subst hn hxx
 have hw3 := hw.new (.cells X.flatten false)
 have hB4 := But.new (S := fun _ => False) hw (.cells X.flatten false)
 obtain ⟨v', M4, e4, hO4, hB5, hw4, hof4⟩ := (hO.old hB4 fun _ _ => id).appends hw3 hx hc hX hs hm hL
 refine ⟨v', M4, ?_, hO4, (hB4.mono fun _ h => h.elim).trans hB5, hw4, fun p h => ?_⟩
 ·have hX0 : 0 < X.length := List.length_pos_iff.2 hX
  have hpos : 0 < X.length * size := Nat.mul_pos hX0 hs
  have hfx := flatten_len hx
  have : srcM (M.new (.cells X.flatten false)) size X.length (.slice M.next 0 X.length c) = some X.flatten := by
   simp only [srcM_slice, firstM_slice]
   rw [if_neg (by omega)]
   have hg : (M.new (.cells X.flatten false)).get M.next = some (.cells X.flatten false) := by simp [Mem.new]
   simp only [Mem.cellsAt, hg]
   rw [if_pos (by omega), List.drop_zero, List.take_of_length_le (by omega)]
  simp only [appO, lenOf_slice, Option.bind_some, this]
  exact e4
 ·have h1 := hof4 p h
  have h3 := hB4.next
  omega
theorem SlIs.made {M : Mem} {p : Pos} {size n c : Nat} {X : List (List AV)} {x : List AV} {op : Bool} (hp : M.get p = some (.cells x op)) (hxx : x = X.flatten) (hx : ∀ y ∈ X, y.length = size) (hn : n = X.length) : SlIs M (.slice p 0 n c) size X := by
 subst hxx hn
 refine ⟨rfl, hx, fun _ => ⟨p, 0, rfl, fun i hi => ?_⟩⟩
 rw [hp, List.getElem?_eq_getElem hi]
 have hf := flatten_row hx (List.getElem?_eq_getElem hi)
 have hlen := flatten_len hx
 have hb : i * size + size ≤ X.flatten.length := by
  rw [hlen]
  calc i * size + size = (i + 1) * size := by rw [Nat.succ_mul]
   _ ≤ X.length * size := Nat.mul_le_mul_right _ hi
 simp only [MB.cellsAt, Nat.zero_add]
 rw [if_pos hb, hf]
end Go.Dx
