/-
  slices.Insert at integers: what stands for it (insertF) is what it does. The kit's shelf says what the call returns and leaves; here that is brought together with the relation of memories.
-/
import Derived.Test.YtflbicbcphmgoaaGreatDoorDxCode
import Derived.Test.YtflbicbcphmgoaaGreatDoorDxOpI
import Derived.Shelf.Spec.SlicesInsertGrow
set_option linter.unusedSimpArgs false
set_option linter.unusedVariables false
set_option linter.unusedSectionVars false
set_option linter.unusedVariables false
set_option linter.unusedSimpArgs false
namespace Go.Proofs
open Go.Shelf Go.RowKit Go.Lib
variable {P : Program} {τ : Go.Shelf.Ren}

set_option maxHeartbeats 4000000 in
set_option maxRecDepth 100000 in
/-- At the end: what append does. -/
theorem insert_end (L : Lays2.n21 P τ) (base : Option Addr) (n c vb voff m vc : Nat) {w w' : World} {y : Value} (hm : 0 < m) (hnil : base = none → n = 0)
    (hrun : ∀ ty, (Builtin.append_ #[(τ.t 22), (τ.t 22)] ty #[.slice base n c, .slice (some ⟨vb, voff, none⟩) m vc]).run P w = .ok y w') :
    Calls P (τ.f 21) #[.slice base n c, .int .i64 n, .slice (some ⟨vb, voff, none⟩) m vc] w fun e w'' => e = .returned y ∧ w'' = w' := by
  have t0 := L.t0; have a0 := L.a0; have z0 := L.z0; have v0 := L.v0; have t3 := L.t3; have a3 := L.a3; have z3 := L.z3; have v3 := L.v3; have t4 := L.t4; have a4 := L.a4; have z4 := L.z4; have v4 := L.v4; have t22 := L.t22; have a22 := L.a22; have z22 := L.z22; have v22 := L.v22
  have u0 := run_underlying L.t0; have u3 := run_underlying L.t3; have u4 := run_underlying L.t4; have u22 := run_underlying L.t22
  have mixed := L.mixed
  have hz1 : ¬ ((m : Int) = 0) := by omega
  go_enter L.f21, Body2.n21_ntmps τ
  cases base with
  | none =>
    have h0 := hnil rfl
    subst h0
    go_wp2_with (at_builtin; refine Lib.wpList_append_run _ rfl _ _ _ _ rfl _ _ rfl rfl _ _ (hrun _) ?_)
    go_ret
    exact ⟨rfl, rfl⟩
  | some a =>
    obtain ⟨ab, ao, asp⟩ := a
    go_wp2_with (at_builtin; refine Lib.wpList_append_run _ rfl _ _ _ _ rfl _ _ rfl rfl _ _ (hrun _) ?_)
    all_goals (go_ret; exact ⟨rfl, rfl⟩)

set_option maxHeartbeats 4000000 in
set_option maxRecDepth 100000 in
/-- Ahead of something, where there is room: what is there is laid further behind, then the new ones in its place. -/
theorem insert_room (L : Lays2.n21 P τ) (b off n c i vb voff m vc k1 k2 : Nat) {w W1 : World} (hi : i < n) (hm : 0 < m) {xs : List Value} (hroom : n + m ≤ c) (hfew : n + m ≤ 9223372036854775807)
    (hov : ∀ lb cb, (callFunc (τ.f 27) #[.slice (some ⟨vb, voff, none⟩) m vc, .slice (some ⟨b, off + (i + m), none⟩) lb cb]).run P w = .ok (.value (.bool false)) w)
    (hcp1 : ∀ ty dc sc, (Builtin.copy_ #[(τ.t 22), (τ.t 22)] ty #[.slice (some ⟨b, off + (i + m), none⟩) (n + m - (i + m)) dc, .slice (some ⟨b, off + i, none⟩) (n + m - i) sc]).run P w.drew = .ok (goInt k1) W1)
    (hcp2 : ∀ (W : World), (∀ x, W.cell? x = W1.cell? x) → (∀ x, W.frozen? x = W1.frozen? x) → ∀ ty dc, (Builtin.copy_ #[(τ.t 22), (τ.t 22)] ty #[.slice (some ⟨b, off + i, none⟩) (n + m - i) dc, .slice (some ⟨vb, voff, none⟩) m vc]).run P W = .ok (goInt k2) (W.setCells b (off + i) xs))
    : Calls P (τ.f 21) #[.slice (some ⟨b, off, none⟩) n c, .int .i64 i, .slice (some ⟨vb, voff, none⟩) m vc] w fun e w' => e = .returned (.slice (some ⟨b, off, none⟩) (n + m) c) ∧ w' = W1.setCells b (off + i) xs := by
  have t0 := L.t0; have a0 := L.a0; have z0 := L.z0; have v0 := L.v0; have t3 := L.t3; have a3 := L.a3; have z3 := L.z3; have v3 := L.v3; have t4 := L.t4; have a4 := L.a4; have z4 := L.z4; have v4 := L.v4; have t22 := L.t22; have a22 := L.a22; have z22 := L.z22; have v22 := L.v22
  have u0 := run_underlying L.t0; have u3 := run_underlying L.t3; have u4 := run_underlying L.t4; have u22 := run_underlying L.t22
  have mixed := L.mixed
  have hz1 : ¬ ((m : Int) = 0) := by omega
  have hz2 : ¬ ((i : Int) = (n : Int)) := by omega
  have hw1 : IntKind.i64.wrap ((i : Int) + (m : Int)) = (i : Int) + (m : Int) := by rw [IntKind.wrap_i64]; omega
  have hb1 : (0 : Int) ≤ (i : Int) + (m : Int) := by omega
  have hin : i ≤ n := by omega
  have htn : ((i : Int) + (m : Int)).toNat = i + m := by omega
  have hb2 : ¬ (c = i + m) := by omega
  have hb3 : (i : Int) ≤ (n : Int) + (m : Int) := by omega
  have hb4 : ¬ (c = i) := by omega
  go_enter L.f21, Body2.n21_ntmps τ
  go_wp2_with (simp only [hov])
  go_region_law_o (refine step_copy_runI rfl _ _ (τ.t 22) (τ.t 22) rfl _ _ (by simp [Act.eval, Act.put]) (by simp [Act.eval, Act.put]) (hcp1 _ _ _) ?_)
  go_wp2_with (at_builtin; refine wpList_copy_runI _ rfl _ _ (τ.t 22) (τ.t 22) rfl _ _ rfl rfl (hcp2 _ (fun _ => rfl) (fun _ => rfl) _ _) ?_)
  go_ret
  exact ⟨rfl, rfl⟩
end Go.Proofs

namespace Go.Dx
open Go.Proofs
variable {P : Program}

/-- Cells of an array laid one by one. -/
def wr (c : Array Value) : Nat → List Value → Array Value
  | _, [] => c
  | o, v :: r => wr (c.setIfInBounds o v) (o + 1) r

theorem wr_size : ∀ (vs : List Value) (o : Nat) (c : Array Value), (wr c o vs).size = c.size
  | [], _, _ => rfl
  | v :: r, o, c => by rw [wr, wr_size r]; simp

theorem wr_get : ∀ (vs : List Value) (o : Nat) (c : Array Value) (j : Nat), (wr c o vs)[j]? = if o ≤ j ∧ j < o + vs.length ∧ j < c.size then vs[j - o]? else c[j]?
  | [], o, c, j => by rw [wr, if_neg (by simp; omega)]
  | v :: r, o, c, j => by
    rw [wr, wr_get r (o + 1) _ j, Array.size_setIfInBounds, Array.getElem?_setIfInBounds]
    simp only [List.length_cons]
    by_cases h1 : o = j
    · subst h1
      rw [if_neg (by omega), if_pos rfl]
      by_cases h2 : o < c.size
      · rw [if_pos h2, if_pos (by omega)]; simp
      · rw [if_neg h2, if_neg (by omega), Array.getElem?_eq_none (by omega)]
    · rw [if_neg h1]
      by_cases h2 : o + 1 ≤ j ∧ j < o + 1 + r.length ∧ j < c.size
      · rw [if_pos h2, if_pos (by omega), show j - o = (j - (o + 1)) + 1 by omega, List.getElem?_cons_succ]
      · rw [if_neg h2, if_neg (by omega)]

theorem setCells_heap (b : Nat) : ∀ (vs : List Value) (o : Nat) (w : World) (c : Array Value) (e : TypeId) (fr : Nat × Nat), w.heap[b]? = some (.cells c e fr) →
    (w.setCells b o vs).heap[b]? = some (.cells (wr c o vs) e fr) ∧ (w.setCells b o vs).heap.size = w.heap.size ∧ (∀ b', b' ≠ b → (w.setCells b o vs).heap[b']? = w.heap[b']?) ∧
    (w.setCells b o vs).os = w.os ∧ (w.setCells b o vs).tape = w.tape ∧ (w.setCells b o vs).output = w.output
  | [], _, _, _, _, _, h => ⟨h, rfl, fun _ _ => rfl, rfl, rfl, rfl⟩
  | v :: r, o, w, c, e, fr, h => by
    have h1 : (w.setCell ⟨b, o, none⟩ v).heap[b]? = some (.cells (c.setIfInBounds o v) e fr) := by
      unfold World.setCell
      simp only [Array.getElem?_modify, if_true]
      rw [h]
      rfl
    obtain ⟨g1, g2, g3, g4, g5, g6⟩ := setCells_heap b r (o + 1) _ _ e fr h1
    refine ⟨g1, ?_, fun b' hb => ?_, g4, g5, g6⟩
    · rw [World.setCells, g2]
      unfold World.setCell
      simp
    · rw [World.setCells, g3 b' hb]
      unfold World.setCell
      simp only [Array.getElem?_modify]
      rw [if_neg (fun e => hb e.symm)]

theorem rowCells {ng : Nat} {ρ : Ren} {H : Heap} {w : World} (h : HRel P ng ρ H w) {p : Pos} {t : Tr AV} {k : Nat} {op : Bool} {L : Loc} (hp : H.get p = some (.cells t k op)) (hL : ρ p = some L) {off n : Nat} {cs : AV} (hc : cellsFrom t off n = some cs) :
    ∃ xs : List Value, xs.length = n ∧ RX ρ cs xs ∧ cs.isList = true ∧ cs.len = n ∧ (∀ j v, xs[j]? = some v → w.cell? ⟨L.b, L.base + off + j, none⟩ = some v) ∧ (∀ v ∈ xs, v.oneCell' = true) ∧ (n = 0 ∨ off + n ≤ k) := by
  obtain ⟨c, e, fr, h1, h2, h3, h4, h5, h6⟩ := h.row hp hL
  obtain ⟨xs, x1, x2, x3, x4, x5, x6, x7⟩ := cellsFrom_rel h5 _ _ _ hc
  refine ⟨xs, x1, x2, x3, x4, fun j v hv => ?_, fun v hv => ?_, x7⟩
  · have hj : j < n := by have := (List.getElem?_eq_some_iff.1 hv).1; omega
    rw [cell_eq h1, x5 j hj]; exact hv
  · obtain ⟨y1, y2⟩ := cells_values x2 x3 x6 v hv
    cases v with
    | agg cs => exact absurd rfl (y1 cs)
    | tuple cs => exact absurd rfl (y2 cs)
    | _ => rfl

theorem heap_shift {w : World} {b A n m i : Nat} {c : Array Value} {e : TypeId} {fr : Nat × Nat} {os xs : List Value} (h : w.heap[b]? = some (.cells c e fr)) (ho : os.length = n) (hx : xs.length = m) (hi : i < n) :
    ((w.drew.setCells b (A + (i + m)) (os.drop i)).setCells b (A + i) xs).heap = ((w.setCells b (A + n) xs).setCells b (A + i) (xs ++ os.drop i)).heap := by
  have h' : w.drew.heap[b]? = some (.cells c e fr) := h
  obtain ⟨a1, a2, a3, _⟩ := setCells_heap b (os.drop i) (A + (i + m)) w.drew c e fr h'
  obtain ⟨b1, b2, b3, _⟩ := setCells_heap b xs (A + i) _ _ e fr a1
  obtain ⟨c1, c2, c3, _⟩ := setCells_heap b xs (A + n) w c e fr h
  obtain ⟨d1, d2, d3, _⟩ := setCells_heap b (xs ++ os.drop i) (A + i) _ _ e fr c1
  apply Array.ext_getElem?
  intro r
  by_cases hr : r = b
  · subst hr
    rw [b1, d1]
    congr 2
    apply Array.ext_getElem?
    intro j
    simp only [wr_get, wr_size, List.length_append, List.length_drop, ho, hx]
    by_cases hj : j < c.size
    · by_cases q1 : j < A + i
      · rw [if_neg (by omega), if_neg (by omega), if_neg (by omega), if_neg (by omega)]
      · by_cases q2 : j < A + i + m
        · rw [if_pos (by omega), if_pos (by omega), List.getElem?_append_left (by omega)]
        · by_cases q3 : j < A + n + m
          · rw [if_neg (by omega), if_pos (by omega), if_pos (by omega), List.getElem?_append_right (by omega)]
            congr 1
            omega
          · rw [if_neg (by omega), if_neg (by omega), if_neg (by omega), if_neg (by omega)]
    · rw [if_neg (by omega), if_neg (by omega), if_neg (by omega), if_neg (by omega)]
  · rw [b3 r hr, a3 r hr, d3 r hr, c3 r hr]
    rfl

theorem heap_grow {w : World} {n m i : Nat} {t : TypeId} {os xs : List Value} {Z1 Z : Array Value} (ho : os.length = n) (hx : xs.length = m) (hi : i < n) (hZ : Z1.size = n + m - i) :
    ((((w.alloc (.cells ((os.take i).toArray ++ Z1 ++ Z) t)).drew.setCells w.heap.size i xs).drew).setCells w.heap.size (i + m) (os.drop i)).heap =
    ((w.drew.alloc (.cells ((os ++ xs).toArray ++ Z) t)).setCells w.heap.size (0 + (0 + i)) (xs ++ os.drop i)).heap := by
  have k1 : (w.alloc (.cells ((os.take i).toArray ++ Z1 ++ Z) t)).drew.heap[w.heap.size]? = some (.cells ((os.take i).toArray ++ Z1 ++ Z) t (0, 0)) := by
    show (w.heap.push _)[w.heap.size]? = _
    simp
  have k2 : (w.drew.alloc (.cells ((os ++ xs).toArray ++ Z) t)).heap[w.heap.size]? = some (.cells ((os ++ xs).toArray ++ Z) t (0, 0)) := by
    show (w.heap.push _)[w.heap.size]? = _
    simp
  obtain ⟨a1, a2, a3, _⟩ := setCells_heap w.heap.size xs i _ _ _ _ k1
  have a1' : ((w.alloc (.cells ((os.take i).toArray ++ Z1 ++ Z) t)).drew.setCells w.heap.size i xs).drew.heap[w.heap.size]? = _ := a1
  obtain ⟨b1, b2, b3, _⟩ := setCells_heap w.heap.size (os.drop i) (i + m) _ _ _ _ a1'
  obtain ⟨c1, c2, c3, _⟩ := setCells_heap w.heap.size (xs ++ os.drop i) (0 + (0 + i)) _ _ _ _ k2
  apply Array.ext_getElem?
  intro r
  by_cases hr : r = w.heap.size
  · subst hr
    rw [b1, c1]
    congr 2
    apply Array.ext_getElem?
    intro j
    have hT : (os.take i).length = i := by rw [List.length_take]; omega
    simp only [wr_get, wr_size, List.length_append, List.length_drop, ho, hx, Array.size_append, List.size_toArray, hT, hZ]
    by_cases hj : j < n + m
    · by_cases q1 : j < i
      · rw [if_neg (by omega), if_neg (by omega), if_neg (by omega)]
        rw [Array.getElem?_append_left (by simp [hT, hZ]; omega), Array.getElem?_append_left (by simp [hT]; omega), Array.getElem?_append_left (by simp [ho, hx]; omega)]
        simp only [List.getElem?_toArray]
        rw [List.getElem?_take_of_lt q1, List.getElem?_append_left (by omega)]
      · by_cases q2 : j < i + m
        · rw [if_neg (by omega), if_pos (by omega), if_pos (by omega), List.getElem?_append_left (by omega)]
          congr 1
          omega
        · rw [if_pos (by omega), if_pos (by omega), List.getElem?_append_right (by omega)]
          congr 1
          omega
    · rw [if_neg (by omega), if_neg (by omega), if_neg (by omega)]
      rw [Array.getElem?_append_right (by simp [hT, hZ]; omega), Array.getElem?_append_right (by simp [ho, hx]; omega)]
      congr 1
      simp [hT, hZ, ho, hx]
      omega
  · rw [b3 r hr]
    show ((w.alloc _).drew.setCells w.heap.size i xs).heap[r]? = _
    rw [a3 r hr, c3 r hr]
    show (w.heap.push _)[r]? = (w.heap.push _)[r]?
    rw [Array.getElem?_push, Array.getElem?_push, if_neg hr, if_neg hr]

theorem setCells_rest (b : Nat) : ∀ (vs : List Value) (o : Nat) (w : World), (w.setCells b o vs).os = w.os ∧ (w.setCells b o vs).tape = w.tape ∧ (w.setCells b o vs).output = w.output
  | [], _, _ => ⟨rfl, rfl, rfl⟩
  | v :: r, o, w => by rw [World.setCells]; exact setCells_rest b r (o + 1) _

/-- slices.Insert does what is said of it. -/
theorem insOk {τ : Go.Shelf.Ren} (L : Lays2.n21 P τ) {f ng : Nat} (hf : f = τ.f 21) (hfn : ∃ fn, P.funcs[f]? = some fn ∧ fn.body.isSome = true ∧ fn.name ≠ "runtime.NumGoroutine")
    (hz1 : sizeP P (τ.t 3) = some 1) {z : AV} (hz2 : zeroCellsP P (τ.t 3) = some z) (hz3 : fewP P (τ.t 3) = true) : ActOk P ng f 0 := by
  refine ⟨hfn, ?_⟩
  subst hf
  intro gs v H H' hins ρ w args hH hR hl
  have hmo' : most = 17179869184 := rfl
  have E : Env P ⟨fun _ => false, 0, ng⟩ ρ [] .nil .leaf ⟨#[], []⟩ H w := ⟨⟨Nat.zero_le _, fun t v h => by cases h⟩, fun t j v h1 h2 => by simp [AV.nth] at h2, hH⟩
  unfold actF at hins
  simp only at hins
  unfold insertF at hins
  split at hins
  · rename_i s i q vo m vc
    obtain ⟨x1, r1, e1, hs, x2, r2, e2, hx2, x3, r3, e3, hv, e4⟩ := hR
    obtain ⟨_, hx2⟩ := hx2
    cases hx2
    subst e4 e3 e2
    have hargs : args = #[x1, .int .i64 i, x3] := by
      apply Array.ext'
      rw [e1]
      rfl
    subst hargs
    split at hins
    · rename_i n tq kq hn hq
      split at hins
      · rename_i him
        obtain ⟨him, hm, hmost⟩ := him
        split at hins
        · rename_i new hnew
          obtain ⟨M, hM, hmc, hx3⟩ := hv.slice_eq
          subst hx3
          obtain ⟨xs, y1, y2, y3, y4, y5, y6, _⟩ := rowCells hH hq hM hnew
          have hsrc : ∀ d, Src P { w with drawn := d } (τ.t 3) 1 (τ.t 22) (.slice (some ⟨M.b, M.base + vo, none⟩) m vc) m xs.toArray := fun d =>
            .cells _ L.t22 (.inl ⟨_, rfl⟩) rfl (run_firstCells_some { w with drawn := d } 1 m ⟨M.b, M.base + vo, none⟩ m vc xs (by omega) (fun j u hj => by rw [Addr.add_lit]; exact y5 j u hj))
          have happ := fun {v' : AV} {H1 : Heap} (h : appendC H 1 m new s = some (v', H1)) => appendC_ok E (ts := #[τ.t 22, τ.t 22]) rfl rfl L.t22 hz1 (by decide) hz2 hz3 hs hsrc y2 y3 (by omega) h 0
          have hty : ∀ ty args, Builtin.append_ #[τ.t 22, τ.t 22] ty args = Builtin.append_ #[τ.t 22, τ.t 22] 0 args := fun _ _ => rfl
          split at hins
          · -- at the end
            rename_i hin
            subst hin
            obtain ⟨ρ', w', y, a1, a2, a3, a4⟩ := happ hins
            have hsl : ∃ base c, x1 = .slice base i c ∧ (base = none → i = 0) := by
              cases s with
              | nilslice => simp [RX] at hs; simp [lenOf] at hn; subst hn; exact ⟨none, 0, hs, fun _ => rfl⟩
              | slice p o l c => obtain ⟨L1, _, _, e⟩ := hs.slice_eq; simp [lenOf] at hn; subst hn; exact ⟨_, c, e, by simp⟩
              | oslice p o l sz =>
                simp [lenOf] at hn
                subst hn
                obtain ⟨L1, _, ⟨cap, _, _, e⟩ | ⟨h0, _, o', e⟩⟩ := hs
                · cases e; exact ⟨_, cap, rfl, by simp⟩
                · cases e; subst h0; exact ⟨_, 0, rfl, by simp⟩
              | str a b => unfold appendC at hins; simp at hins
              | _ => simp [lenOf] at hn
            obtain ⟨base, c, e, hnil⟩ := hsl
            subst e
            refine (insert_end L base i c M.b (M.base + vo) m vc hm hnil fun ty => by rw [hty]; exact a1).mono ?_
            rintro e w'' ⟨rfl, rfl⟩
            exact ⟨y, ρ', rfl, a2, a3, a4⟩
          · rename_i hin
            have hin : i < n := by omega
            split at hins
            · rename_i p off l1 z1
              split at hins
              · rename_i t k hp
                split at hins
                · rename_i old hold
                  split at hins
                  · rename_i p1 off1 l2 z2 H1 hap
                    simp only [Option.map_eq_some_iff] at hins
                    obtain ⟨H2, hst, e⟩ := hins
                    cases e
                    simp [lenOf] at hn
                    subst hn
                    obtain ⟨ρ', w1, y, a1, a2, a3, a4⟩ := happ hap
                    have hz0 : z1 = 1 := by
                      unfold appendC at hap
                      simp only at hap
                      split at hap
                      · cases hap
                      · rename_i h; simpa using h
                    subst hz0
                    obtain ⟨La, hLa, hs⟩ := hs
                    have hs : ∃ cap, La.base + off + cap * 1 = La.sz ∧ l1 ≤ cap ∧ x1 = .slice (some ⟨La.b, La.base + off, none⟩) l1 cap := by
                      rcases hs with ⟨cap, c1, c2, e⟩ | ⟨h0, _⟩
                      · cases e; exact ⟨cap, c1, c2, rfl⟩
                      · omega
                    obtain ⟨cap, c1, c2, hx1⟩ := hs
                    subst hx1
                    obtain ⟨os, o1, o2, o3, o4, o5, o6, _⟩ := rowCells hH hp hLa hold
                    have hMb : M.b ≠ La.b := fun e => by
                      have := hH.inj q p M La (live_of_get hq (by simp)) (live_of_get hp (by simp)) hM hLa e
                      subst this
                      rw [hp] at hq
                      cases hq
                    obtain ⟨ci, ei, fi, k1, k2, k3, k4, k5, k6⟩ := hH.row hp hLa
                    obtain ⟨cj, ej, fj, j1, j2, j3, j4, j5, j6⟩ := hH.row hq hM
                    obtain ⟨j4a, j4b, j4c⟩ := j4 rfl
                    have hfrA : ∀ j, w.frozen? ⟨M.b, j, none⟩ = false := fun j => by unfold World.frozen?; rw [j1]; exact j4c j
                    obtain ⟨i0, hi0, hz0, hzs, hzb⟩ := info_parts L.i3
                    have hsrcK : Go.Src P i0.size (τ.t 22) (.slice (some ⟨M.b, M.base + vo, none⟩) m vc) m xs w := by
                      rw [hzs]
                      exact Go.Src.ofSlice w L.t22 ⟨M.b, M.base + vo, none⟩ m vc xs (by omega) (fun j u hj => by rw [Addr.add_lit]; exact y5 j u hj) y6
                    have hmem : l1 + m ≤ cap → ∀ j, j < l1 + m → (w.cell? ⟨La.b, La.base + off + j, none⟩).isSome = true := fun hr j hj => by
                      have : La.base + off + j < ci.size := by omega
                      rw [cell_eq k1, Array.getElem?_eq_getElem this]; rfl
                    have hfz : l1 + m ≤ cap → ∀ j, j < l1 + m → w.frozen? ⟨La.b, La.base + off + j, none⟩ = false := fun hr j hj => by
                      have : La.base + off + j < ci.size := by omega
                      unfold World.frozen?; rw [k1]; exact k6 _ this
                    -- what append and the store leave
                    obtain ⟨L', hL', a2'⟩ := a2
                    have hR2 : RX ρ' (new.app (old.drop i)) (xs ++ os.drop i) := (y2.app y3 (o2.drop o3).1).mono a4.ext
                    obtain ⟨w2, b1, b2, b3⟩ := a3.store (P := P) hst hL' hR2
                    have one2 : ∀ v ∈ xs ++ os.drop i, v.oneCell' = true := fun v hv => by
                      rcases List.mem_append.1 hv with h | h
                      · exact y6 v h
                      · exact o6 v (List.mem_of_mem_drop h)
                    by_cases hroom : l1 + m ≤ cap
                    · have hrun := run_append_room_src (P := P) (w := w) (τ.t 22) (τ.t 22) 0 (τ.t 3) i0 L.t22 hi0 La.b (La.base + off) l1 cap _ m xs hsrcK hroom
                        (by rw [hzs, y1, Nat.mul_one]; intro j hj; rw [Nat.add_assoc]; exact hmem hroom _ (by omega)) (by rw [hzs, y1, Nat.mul_one]; intro j hj; rw [Nat.add_assoc]; exact hfz hroom _ (by omega))
                      rw [hrun, hzs, Nat.mul_one] at a1
                      cases a1
                      have hy : ∃ cap', L'.base + off1 + cap' * z2 = L'.sz ∧ l2 ≤ cap' ∧ L'.b = La.b ∧ L'.base + off1 = La.base + off ∧ l2 = l1 + m ∧ cap' = cap := by
                        rcases a2' with ⟨cap', q1, q2, e⟩ | ⟨h0, _, o', e⟩
                        · simp at e; exact ⟨cap', q1, q2, e.1.1.symm, e.1.2.symm, e.2.1.symm, e.2.2.symm⟩
                        · simp at e; omega
                      obtain ⟨cap', q1, q2, q3, q4, q5, q6⟩ := hy
                      subst q5 q6
                      have hst2 := run_storeCells_cells (P := P) La.b (La.base + off + i) (xs ++ os.drop i) 0 (w.setCells La.b (La.base + off + l1) xs)
                        (by
                          intro j hj
                          simp only [List.length_append, List.length_drop, y1, o1] at hj
                          obtain ⟨g1, _⟩ := setCells_heap La.b xs (La.base + off + l1) w ci ei fi k1
                          rw [cell_eq g1, Array.getElem?_eq_getElem (by rw [wr_size]; omega)]; rfl)
                        (by
                          intro j hj
                          simp only [List.length_append, List.length_drop, y1, o1] at hj
                          rw [World.frozen?_setCells, show La.base + off + i + 0 + j = La.base + off + (i + j) by omega]; exact hfz hroom _ (by omega)) one2
                      rw [q3, show L'.base + (off1 + i) = La.base + off + i by omega, hst2] at b1
                      cases b1
                      have hsz1 : (P.info? (τ.t 3)).map (·.size) = some 1 := hz1
                      have hdl : (os.drop i).length = l1 - i := by rw [List.length_drop, o1]
                      have sh : ∀ x y : Nat, La.base + off + x + y = La.base + off + (x + y) := fun x y => by omega
                      have hsp1 : ∀ k2, k2 < l1 + m → ((w.drew.setCells La.b (La.base + off + (i + m)) (os.drop i)).cell? ⟨La.b, La.base + off + k2, none⟩).isSome = true := fun k2 hk2 =>
                        isSome_setCells La.b (os.drop i) (La.base + off + (i + m)) w.drew (fun j hj => by rw [sh]; exact hmem hroom _ (by omega)) _ (hmem hroom k2 hk2)
                      have hI := insert_room L La.b (La.base + off) l1 cap' i M.b (M.base + vo) m vc (os.drop i).length xs.length (w := w) (W1 := w.drew.setCells La.b (La.base + off + (i + m)) (os.drop i)) (xs := xs) hin hm hroom (by omega)
                        (fun lb cb => by
                          rw [run_callFunc_extern L.f27 (by kernel_rfl) (by kernel_rfl) (by kernel_rfl) (e := Extern.SlicesOverlaps.overlaps #[(τ.t 22), (τ.t 22)] #[(τ.t 4)]) (by kernel_rfl),
                            Lib.run_overlaps_apart w (τ.t 22) (τ.t 4) (τ.t 3) L.t22 1 L.z3 ⟨M.b, M.base + vo, none⟩ ⟨La.b, La.base + off + (i + m), none⟩ m vc lb cb hMb ej ei cj.size ci.size (by unfold World.shape?; rw [j1]) (by unfold World.shape?; rw [k1]) (by omega) (hfrA _) (hfrA _)]
                          rfl)
                        (fun ty dc sc => run_copy_cells w.drew _ _ ty (τ.t 3) La.b (La.base + off + (i + m)) (l1 + m - (i + m)) dc ⟨La.b, La.base + off + i, none⟩ (l1 + m - i) sc (os.drop i) L.t22 hsz1 (by rw [hdl]; simp only [Nat.min_def]; split <;> omega)
                          (fun j v hj => by rw [Addr.add_lit, sh]; exact o5 (i + j) v (by rwa [List.getElem?_drop] at hj))
                          (fun j hj => by rw [sh]; exact hmem hroom _ (by omega)) (fun j hj => by rw [sh]; exact hfz hroom _ (by omega)) (fun v hv => o6 v (List.mem_of_mem_drop hv)))
                        (fun W hWc hWf ty dc => run_copy_cells W _ _ ty (τ.t 3) La.b (La.base + off + i) (l1 + m - i) dc ⟨M.b, M.base + vo, none⟩ m vc xs L.t22 hsz1 (by rw [y1]; simp only [Nat.min_def]; split <;> omega)
                          (fun j v hj => by
                            rw [Addr.add_lit, hWc, World.cell?_setCells_out La.b _ _ _ _ (fun h _ => absurd h hMb)]
                            exact y5 j v hj)
                          (fun j hj => by rw [hWc, sh]; exact hsp1 _ (by omega))
                          (fun j hj => by rw [hWf, World.frozen?_setCells, sh]; exact hfz hroom _ (by omega)) y6)
                      refine hI.mono ?_
                      rintro e w'' ⟨rfl, rfl⟩
                      have hheap := heap_shift (A := La.base + off) k1 o1 y1 hin
                      have hrest1 := setCells_rest La.b xs (La.base + off + i) (w.drew.setCells La.b (La.base + off + (i + m)) (os.drop i))
                      have hrest2 := setCells_rest La.b (os.drop i) (La.base + off + (i + m)) w.drew
                      have hrest3 := setCells_rest La.b (xs ++ os.drop i) (La.base + off + i) (w.setCells La.b (La.base + off + l1) xs)
                      have hrest4 := setCells_rest La.b xs (La.base + off + l1) w
                      refine ⟨_, ρ', rfl, ⟨L', hL', .inl ⟨cap', q1, q2, by rw [q3, q4]⟩⟩, b2.drew ?_, (a4.trans b3).trans (Step.drew ?_ ?_ ?_ ?_)⟩
                      · rw [Nat.add_zero]; exact hheap
                      · rw [Nat.add_zero]; exact hheap
                      · rw [Nat.add_zero, hrest1.1, hrest2.1, hrest3.1, hrest4.1]; rfl
                      · rw [Nat.add_zero, hrest1.2.1, hrest2.2.1, hrest3.2.1, hrest4.2.1]; rfl
                      · rw [Nat.add_zero, hrest1.2.2, hrest2.2.2, hrest3.2.2, hrest4.2.2]; rfl
                    · have hmo : l1 + m ≤ most := by
                        unfold appendC at hap
                        simp only [hp] at hap
                        split at hap
                        · cases hap
                        · split at hap
                          · rename_i hfit
                            exfalso
                            have : La.base + k ≤ ci.size := k3
                            omega
                          · split at hap
                            · rename_i h; exact h.1
                            · cases hap
                      have hroom' : cap < l1 + m := by omega
                      have hold' : (Builtin.firstCells i0.size l1 (.slice (some ⟨La.b, La.base + off, none⟩) l1 cap)).run P w.drew = .ok os.toArray w.drew := by
                        rw [hzs]
                        exact run_firstCells_some w.drew 1 l1 ⟨La.b, La.base + off, none⟩ l1 cap os (by omega) (fun j u hj => by rw [Addr.add_lit]; exact o5 j u hj)
                      have hrun := run_append_grow_src w (τ.t 22) (τ.t 22) 0 (τ.t 3) i0 _ L.t22 hi0 hz0 (some ⟨La.b, La.base + off, none⟩) l1 cap os hold' _ m xs hsrcK hroom' (by omega) (by rw [hzb]; exact growslice_fits hroom' (by omega))
                      rw [hrun] at a1
                      cases a1
                      have hy : ∃ cap', L'.base + off1 + cap' * z2 = L'.sz ∧ l2 ≤ cap' ∧ L'.b = w.heap.size ∧ L'.base + off1 = 0 ∧ l2 = l1 + m ∧ cap' = grownCap w (l1 + m) cap (τ.t 3) := by
                        rcases a2' with ⟨cap', q1, q2, e⟩ | ⟨h0, _, o', e⟩
                        · simp at e; exact ⟨cap', q1, q2, e.1.1.symm, by omega, e.2.1.symm, e.2.2.symm⟩
                        · simp at e; omega
                      obtain ⟨cap', q1, q2, q3, q4, q5, q6⟩ := hy
                      subst q5
                      have k9 : (w.drew.alloc (.cells ((os ++ xs).toArray ++ Builtin.zeroCells (Value.int .i64 0).cells (grownCap w (l1 + m) cap (τ.t 3) - (l1 + m))) (τ.t 3))).heap[w.heap.size]? = some (.cells ((os ++ xs).toArray ++ Builtin.zeroCells (Value.int .i64 0).cells (grownCap w (l1 + m) cap (τ.t 3) - (l1 + m))) (τ.t 3) (0, 0)) := by
                        show (w.heap.push _)[w.heap.size]? = _
                        simp
                      have hst2 := run_storeCells_cells (P := P) w.heap.size (0 + (0 + i)) (xs ++ os.drop i) 0 (w.drew.alloc (.cells ((os ++ xs).toArray ++ Builtin.zeroCells (Value.int .i64 0).cells (grownCap w (l1 + m) cap (τ.t 3) - (l1 + m))) (τ.t 3)))
                        (by
                          intro j hj
                          simp only [List.length_append, List.length_drop, y1, o1] at hj
                          rw [cell_eq k9, Array.getElem?_eq_getElem (by simp [y1, o1]; omega)]; rfl)
                        (by
                          intro j hj
                          unfold World.frozen?
                          simp only [k9]
                          simp) one2
                      rw [q3, show L'.base + (off1 + i) = 0 + (0 + i) by omega, hst2] at b1
                      cases b1
                      have hI := Any2.slices_Insert_int_grow L La.b (La.base + off) l1 cap i M.b (M.base + vo) m vc os xs w hin hm c2 hroom' (by omega) o1 y1 o5 y5 o6 y6
                      refine hI.mono ?_
                      rintro e w'' ⟨rfl, rfl⟩
                      have hheap := heap_grow (w := w) (t := τ.t 3) (Z1 := Builtin.zeroCells (Value.int .i64 0).cells (l1 + m - i)) (Z := Builtin.zeroCells (Value.int .i64 0).cells (grownCap w (l1 + m) cap (τ.t 3) - (l1 + m))) o1 y1 hin (by simp [Builtin.zeroCells, Value.cells])
                      refine ⟨_, ρ', rfl, ⟨L', hL', .inl ⟨cap', q1, q2, by rw [q3, q4, q6]⟩⟩, b2.drew ?_, (a4.trans b3).trans (Step.drew ?_ ?_ ?_ ?_)⟩
                      · rw [Nat.add_zero]; exact hheap
                      · rw [Nat.add_zero]; exact hheap
                      · simp only [(setCells_rest _ _ _ _).1]; exact (setCells_rest _ _ _ _).1
                      · simp only [(setCells_rest _ _ _ _).2.1]; exact (setCells_rest _ _ _ _).2.1
                      · simp only [(setCells_rest _ _ _ _).2.2]; exact (setCells_rest _ _ _ _).2.2
                  · cases hins
                · cases hins
              · cases hins
            · cases hins
        · cases hins
      · cases hins
    · cases hins
  · cases hins
end Go.Dx
