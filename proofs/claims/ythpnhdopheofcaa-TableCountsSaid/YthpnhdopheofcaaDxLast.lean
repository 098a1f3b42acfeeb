import Derived.Test.YthpnhdopheofcaaDxSound
import Derived.Test.YthpnhdopheofcaaDxNat
import Derived.Laws.IdiomRangeMap
import Derived.Maps.RangeRun
set_option linter.unusedSimpArgs false
set_option linter.unusedVariables false
namespace Go.Dx
def keyOf (v : Value) : Int := match v with | .int _ n => n | _ => 0
def maxSeen (l : List MapEntry) (seen : Array Nat) : Int := l.foldl (fun m e => if seen.contains e.born then max m (keyOf e.key) else m) 0
def maxAll (l : List MapEntry) : Int := l.foldl (fun m e => max m (keyOf e.key)) 0
def Stamps (es : Array MapEntry) (clock : Nat) : Prop := (∀ x ∈ es.toList, x.born < clock) ∧ (es.toList.map (·.born)).Nodup ∧ True
def SameBut (w w' : World) : Prop := w'.os = w.os ∧ w'.tape = w.tape ∧ w'.output = w.output ∧ w.heap.size ≤ w'.heap.size ∧ ∀ b, b < w.heap.size → w'.heap[b]? = w.heap[b]?
theorem sameBut_alloc {w w1 : World} {o : Obj} (h : w1.heap = w.heap ∧ w1.os = w.os ∧ w1.tape = w.tape ∧ w1.output = w.output) : SameBut w (w1.alloc o) := by
 obtain ⟨h1, h2, h3, h4⟩ := h
 refine ⟨h2, h3, h4, ?_, fun b hb => ?_⟩
 ·rw [World.size_alloc, h1]; omega
 ·show (w1.heap.push o)[b]? = _
  rw [Array.getElem?_push, h1, if_neg (by omega)]
theorem maxSeen_none (l : List MapEntry) : maxSeen l #[] = 0 := by
 unfold maxSeen
 suffices h : ∀ m : Int, l.foldl (fun m e => if (#[] : Array Nat).contains e.born then max m (keyOf e.key) else m) m = m from h 0
 induction l with
 | nil => intro m; rfl
 | cons e l ih => intro m; simpa using ih m
theorem maxSeen_all (es : Array MapEntry) (seen : Array Nat) (h : (leftOf es seen).size = 0) : maxSeen es.toList seen = maxAll es.toList := by
 have hall : ∀ e ∈ es.toList, seen.contains e.born = true := by
  intro e he
  cases hc : seen.contains e.born with
  | true => rfl
  | false =>
   exfalso
   have : e ∈ (leftOf es seen) := by unfold leftOf; simp only [Array.mem_filter]; exact ⟨by simpa using he, by rw [hc]; rfl⟩
   have := Array.size_pos_of_mem this
   omega
 unfold maxSeen maxAll
 generalize es.toList = l at hall
 suffices hs : ∀ m : Int, l.foldl (fun m e => if seen.contains e.born then max m (keyOf e.key) else m) m = l.foldl (fun m e => max m (keyOf e.key)) m from hs 0
 induction l with
 | nil => intro m; rfl
 | cons e l ih =>
  intro m
  simp only [List.foldl_cons, hall e (List.mem_cons_self ..), if_true]
  exact ih (fun x hx => hall x (List.mem_cons_of_mem _ hx)) _
theorem foldl_max {f : MapEntry → Int} {p : MapEntry → Bool} : ∀ (l : List MapEntry) (m k : Int), l.foldl (fun m e => if p e then max m (f e) else m) (max m k) = max (l.foldl (fun m e => if p e then max m (f e) else m) m) k := by
 intro l
 induction l with
 | nil => intro m k; rfl
 | cons e l ih =>
  intro m k
  simp only [List.foldl_cons]
  split
  ·rw [show max (max m k) (f e) = max (max m (f e)) k by omega, ih]
  ·exact ih m k
theorem maxSeen_push (seen : Array Nat) (e : MapEntry) (hn : seen.contains e.born = false) : ∀ (l : List MapEntry), (l.map (·.born)).Nodup → e ∈ l → maxSeen l (seen.push e.born) = max (maxSeen l seen) (keyOf e.key) := by
 intro l hd he
 unfold maxSeen
 generalize (0 : Int) = m
 induction l generalizing m with
 | nil => cases he
 | cons x l ih =>
  simp only [List.map_cons, List.nodup_cons] at hd
  simp only [List.foldl_cons]
  rcases List.mem_cons.1 he with rfl | he
  ·have h1 : (seen.push e.born).contains e.born = true := by simp
   have h2 : ∀ (m : Int), l.foldl (fun m x => if (seen.push e.born).contains x.born then max m (keyOf x.key) else m) m = l.foldl (fun m x => if seen.contains x.born then max m (keyOf x.key) else m) m := by
    have hne : ∀ x ∈ l, x.born ≠ e.born := fun x hx h => hd.1 (List.mem_map.2 ⟨x, hx, h⟩)
    clear ih he hd
    induction l with
    | nil => intro m; rfl
    | cons y l ih =>
     intro m
     have hy := hne y (List.mem_cons_self ..)
     have : (seen.push e.born).contains y.born = seen.contains y.born := by simp [hy]
     simp only [List.foldl_cons, this]
     exact ih (fun x hx => hne x (List.mem_cons_of_mem _ hx)) _
   rw [h1, hn]
   simp only [if_true, Bool.false_eq_true, if_false]
   rw [h2, foldl_max]
  ·have hx : x.born ≠ e.born := fun h => hd.1 (h ▸ List.mem_map.2 ⟨e, he, rfl⟩)
   have : (seen.push e.born).contains x.born = seen.contains x.born := by simp [hx]
   rw [this]
   exact ih hd.2 he _
theorem next_map {P : Program} (w : World) (ty : TypeId) (bm since c0 : Nat) (seen : Array Nat) (es : Array MapEntry) (clock : Nat) (hb : w.heap[bm]? = some (.map es clock)) (hold : ∀ x ∈ es.toList, x.born < since) (hsc : since ≤ c0) :
  ((leftOf es seen).size = 0 ∧ (Instr.next (.pointer (some ⟨w.heap.size, 0, none⟩)) false ty).run P (w.alloc (.mapIter (some bm) since seen c0)) = .ok (.tuple #[.bool false]) (w.alloc (.mapIter (some bm) since seen c0))) ∨
  ∃ e ∈ (leftOf es seen).toList, ∃ w1 : World, (w1.heap = w.heap ∧ w1.os = w.os ∧ w1.tape = w.tape ∧ w1.output = w.output) ∧ (Instr.next (.pointer (some ⟨w.heap.size, 0, none⟩)) false ty).run P (w.alloc (.mapIter (some bm) since seen c0)) = .ok (.tuple #[.bool true, e.key, e.val]) (w1.alloc (.mapIter (some bm) since (seen.push e.born) clock)) := by
 have hlt : bm < w.heap.size := by
  rcases Nat.lt_or_ge bm w.heap.size with h | h
  ·exact h
  ·simp [Array.getElem?_eq_none h] at hb
 have hr : (w.alloc (.mapIter (some bm) since seen c0)).heap[w.heap.size]? = some (.mapIter (some bm) since seen c0) := heap_alloc_new w _
 have hb' : (w.alloc (.mapIter (some bm) since seen c0)).heap[bm]? = some (.map es clock) := by rw [heap_alloc_old w _ hlt, hb]
 rcases run_next_at (P := P) _ ty w.heap.size bm since c0 seen es clock hr hb' hold hsc with ⟨h1, h2⟩ | ⟨e, he, w1, h1, h2⟩
 ·exact .inl ⟨h1, h2⟩
 ·refine .inr ⟨e, he, ?_⟩
  have key : ∀ (o o' : Obj), (w.heap.push o).setIfInBounds w.heap.size o' = w.heap.push o' := by
   intro o o'
   apply Array.ext_getElem?
   intro i
   rw [Array.getElem?_setIfInBounds, Array.getElem?_push, Array.getElem?_push, Array.size_push]
   by_cases h : w.heap.size = i
   ·subst h; simp
   ·rw [if_neg h]; simp [h, Ne.symm h]
  rcases h1 with rfl | rfl
  ·refine ⟨w, ⟨rfl, rfl, rfl, rfl⟩, ?_⟩
   rw [h2]
   congr 1
   unfold ChangeMaps.setBlock World.alloc
   simp only [key]
  ·refine ⟨w.drew, ⟨rfl, rfl, rfl, rfl⟩, ?_⟩
   rw [h2]
   congr 1
   unfold ChangeMaps.setBlock World.alloc World.drew
   simp only [key]
theorem bornOk_spec {ρ : Ren} {clock : Nat} : ∀ {m : ME} {lo : Nat} {l : List MapEntry}, bornOk clock m lo = true → MR ρ m l → (∀ x ∈ l, x.born < clock ∧ lo ≤ x.born) ∧ (l.map (·.born)).Nodup := by
 intro m
 induction m with
 | nil => intro lo l _ h; cases h; exact ⟨fun x hx => (by cases hx), List.nodup_nil⟩
 | cons k v b r ih =>
  intro lo l hb h
  obtain ⟨e, es, rfl, h1, h2, rfl, h4⟩ := h
  simp only [bornOk, Bool.and_eq_true, Nat.ble_eq, Nat.blt_eq] at hb
  obtain ⟨⟨b1, b2⟩, b3⟩ := hb
  obtain ⟨i1, i2⟩ := ih b3 h4
  refine ⟨fun x hx => ?_, ?_⟩
  ·rcases List.mem_cons.1 hx with rfl | hx
   ·exact ⟨b2, b1⟩
   ·have := i1 x hx; exact ⟨this.1, by omega⟩
  ·simp only [List.map_cons, List.nodup_cons]
   refine ⟨fun hm => ?_, i2⟩
   obtain ⟨x, hx, e⟩ := List.mem_map.1 hm
   have := (i1 x hx).2
   omega
theorem maxKeys_spec {ρ : Ren} : ∀ {m : ME} {a b : Int} {l : List MapEntry}, maxKeys m a = some b → MR ρ m l → (∀ x ∈ l, ∃ v, x.key = .int .i64 v) ∧ l.foldl (fun m e => max m (keyOf e.key)) a = b := by
 intro m
 induction m with
 | nil => intro a b l h hm; cases hm; cases h; exact ⟨fun x hx => (by cases hx), rfl⟩
 | cons k v s r ih =>
  intro a b l h hm
  obtain ⟨e, es, rfl, h1, h2, rfl, h4⟩ := hm
  cases k with
  | int c n =>
   simp only [maxKeys] at h
   split at h
   ·rename_i hc
    subst hc
    have hk : e.key = .int .i64 n := by have := h1.2; simpa [kindOf] using this
    obtain ⟨i1, i2⟩ := ih h h4
    refine ⟨fun x hx => ?_, ?_⟩
    ·rcases List.mem_cons.1 hx with rfl | hx
     ·exact ⟨n, hk⟩
     ·exact i1 x hx
    ·rw [List.foldl_cons, show keyOf e.key = n by rw [hk]; rfl]; exact i2
   ·cases h
  | _ => cases h
theorem natLast_ok {P : Program} {ng f : Nat} (hex : ∃ fn, P.funcs[f]? = some fn ∧ fn.body.isSome = true ∧ fn.name ≠ "runtime.NumGoroutine") (h0 : ∀ w, Calls P f #[.pointer none] w fun e w' => e = .returned (.int .i64 0) ∧ w' = w)
  (h1 : ∀ w (ad : Addr), w.cell? ad = some (.map none) → Calls P f #[.pointer (some ad)] w fun e w' => e = .returned (.int .i64 0) ∧ w' = w)
  (h2 : ∀ w (ad : Addr) (bm : Nat) (es : Array MapEntry) (clock : Nat), w.cell? ad = some (.map (some bm)) → w.heap[bm]? = some (.map es clock) → Stamps es clock → (∀ x ∈ es.toList, ∃ v, x.key = .int .i64 v) →
   Calls P f #[.pointer (some ad)] w fun e w' => e = .returned (.int .i64 (maxAll es.toList)) ∧ SameBut w w') : NatOk P ng f natLast := by
 refine ⟨hex, ?_⟩
 intro as v H hg ρ w args hH hx hl
 have one : ∀ {a : AV}, as = .cons a .nil → ∃ x, args = #[x] ∧ RX ρ a [x] := by
  rintro a rfl
  obtain ⟨x, xs, e, k1, k2⟩ := hx
  cases k2
  exact ⟨x, by cases args; simp_all, k1⟩
 have zero : ∀ {x : Value}, Calls P f #[x] w (fun e w' => e = .returned (.int .i64 0) ∧ w' = w) → Calls P f #[x] w fun e w' => ∃ x, e = .returned x ∧ RX ρ (.int 3 0) [x] ∧ w'.os = w.os ∧ w'.tape = w.tape ∧ w'.output = w.output ∧ w.heap.size ≤ w'.heap.size ∧ ∀ b, b < w.heap.size → w'.heap[b]? = w.heap[b]? := by
  intro x h
  refine Calls.mono h ?_
  rintro e w' ⟨rfl, rfl⟩
  exact ⟨_, rfl, ⟨by omega, rfl⟩, rfl, rfl, rfl, Nat.le_refl _, fun _ _ => rfl⟩
 unfold natLast at hg
 split at hg
 ·cases hg
  obtain ⟨x, rfl, hx1⟩ := one rfl
  have : x = .pointer none := by simpa [RX] using hx1
  subst this
  exact zero (h0 w)
 ·rename_i p off
  obtain ⟨x, rfl, hx1⟩ := one rfl
  obtain ⟨L, hL, e⟩ := hx1
  have : x = .pointer (some ⟨L.b, L.base + off, none⟩) := by simpa using e
  subst this
  split at hg
  ·rename_i hc
   cases hg
   obtain ⟨y, hy, hr⟩ := hH.cell hc hL
   have : y = .map none := by simpa [RX] using hr
   subst this
   exact zero (h1 w _ hy)
  ·rename_i q hc
   obtain ⟨y, hy, hr⟩ := hH.cell hc hL
   obtain ⟨M, hM, e⟩ := hr
   have : y = .map (some M.b) := by simpa using e
   subst this
   split at hg
   ·rename_i es clock hq
    split at hg
    ·rename_i hb
     obtain ⟨n, hn, rfl⟩ := Option.map_eq_some_iff.1 hg
     obtain ⟨arr, k1, k2⟩ := hH.objs q _ M hq (by simp) hM
     obtain ⟨s1, s2⟩ := bornOk_spec hb k2
     obtain ⟨t1, t2⟩ := maxKeys_spec hn k2
     refine Calls.mono (h2 w _ M.b arr clock hy k1 ⟨fun x hx => (s1 x hx).1, s2, trivial⟩ t1) ?_
     rintro e w' ⟨rfl, g1, g2, g3, g4, g5⟩
     exact ⟨_, rfl, ⟨by omega, by rw [maxAll, t2]; rfl⟩, g1, g2, g3, g4, g5⟩
    ·cases hg
   ·cases hg
  ·cases hg
 ·cases hg
end Go.Dx
