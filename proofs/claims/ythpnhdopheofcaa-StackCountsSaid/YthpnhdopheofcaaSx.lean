import Derived.Test.YthpnhdopheofcaaSk
import Derived.Test.YthpnhdopheofcaaDxWk
import Derived.Test.YthpnhdopheofcaaFns
set_option linter.unusedSimpArgs false
set_option linter.unusedVariables false
section
namespace Go.Proofs.Ythpnhdopheofcaa
open Go.Dx
variable {tbl : Nat → Option CFunc}
def tV : Vl := ⟨6, 3⟩
def occ (x : Vl) : List Vl → Int
  | [] => 0
  | v :: l => (if v = x then 1 else 0) + occ x l
theorem occ_nonneg (x : Vl) (l : List Vl) : 0 ≤ occ x l := by
  induction l with
  | nil => exact Int.le_refl _
  | cons v l ih => simp only [occ]; split <;> omega
theorem occ_app (x : Vl) (l r : List Vl) : occ x (l ++ r) = occ x l + occ x r := by
  induction l with
  | nil => simp [occ]
  | cons v l ih => simp only [List.cons_append, occ, ih]; omega
theorem occ_le (x : Vl) (l : List Vl) : occ x l ≤ l.length := by
  induction l with
  | nil => exact Int.le_refl _
  | cons v l ih => simp only [occ, List.length_cons]; split <;> omega
theorem occ_mid (x v : Vl) (s h : List Vl) : occ x (s ++ v :: h) = (if v = x then 1 else 0) + occ x (s ++ h) := by
  rw [occ_app, occ_app]; simp only [occ]; omega
theorem occ_end (x v : Vl) (s h : List Vl) : occ x (s ++ [v] ++ h) = occ x (s ++ v :: h) := by
  rw [List.append_assoc]; rfl
def okV (v : Vl) : Prop := v = fV ∨ v = tV ∨ plain v
theorem tV_ne : tV ≠ fV := by decide
theorem plain.net {v : Vl} (h : plain v) : v ≠ tV := fun e => by rw [e] at h; exact absurd h.1 (by decide)
theorem refV_t : refV tV = true := by decide
structure SX (G : Hp) (s h : List Vl) : Prop where
  o1 : G.objs 1 = some ⟨7, 1 + occ fV (s ++ h), [], 0, 0, 0⟩
  o2 : G.objs 2 = some ⟨8, 1, s, 0, 0, 0⟩
  o3 : G.objs 3 = some ⟨6, 1 + occ tV (s ++ h), [], 0, 0, 0⟩
  no : ∀ n, n ≠ 1 → n ≠ 2 → n ≠ 3 → G.objs n = none
  tk : ∀ n, G.taken n = true ↔ (n = 1 ∨ n = 2 ∨ n = 3)
  buf : G.buffer = [] ∨ G.buffer = [1] ∨ G.buffer = [3] ∨ G.buffer = [1, 3] ∨ G.buffer = [3, 1]
  ok : ∀ v ∈ s ++ h, okV v
  len : s.length + h.length ≤ 2 ^ 30
theorem SX.buf_len {G : Hp} {s h : List Vl} (hX : SX G s h) : G.buffer.length < 2 ^ 30 := by
  rcases hX.buf with e | e | e | e | e <;> simp [e]
theorem SX.there {G : Hp} {s h : List Vl} (hX : SX G s h) {v : Vl} (hv : okV v) : thereV G v = true := by
  rcases hv with rfl | rfl | hv
  · have e := hX.o1
    have e' : G.objs fV.n = some ⟨7, 1 + occ fV (s ++ h), [], 0, 0, 0⟩ := e
    simp only [thereV, e']
    decide
  · have e := hX.o3
    have e' : G.objs tV.n = some ⟨6, 1 + occ tV (s ++ h), [], 0, 0, 0⟩ := e
    simp only [thereV, e']
    decide
  · exact hv.there G
theorem SX.good {G : Hp} {s h : List Vl} (hX : SX G s h) {cs : List Fr} {f : Fr} (h0 : 0 ≤ f.base) (hb : f.base + 1 ≤ s.length) (hc : cs.length < 2 ^ 30) : Good G 2 cs f ⟨8, 1, s, 0, 0, 0⟩ :=
  ⟨hX.o2, rfl, by have := hX.len; show s.length ≤ _; omega, h0, hb, hc⟩
theorem SX.push {G : Hp} {s h : List Vl} {v : Vl} (hX : SX G s (v :: h)) : SX { G with objs := upd G.objs 2 (some ⟨8, 1, s ++ [v], 0, 0, 0⟩) } (s ++ [v]) h where
  o1 := by rw [occ_end]; simpa [upd] using hX.o1
  o2 := by simp [upd]
  o3 := by rw [occ_end]; simpa [upd] using hX.o3
  no := fun n a b c => by simpa [upd, b] using hX.no n a b c
  tk := hX.tk
  buf := hX.buf
  ok := fun w hw => hX.ok w (by rw [List.append_assoc] at hw; exact hw)
  len := by have := hX.len; simp only [List.length_append, List.length_cons, List.length_nil] at this ⊢; omega
theorem SX.pop {G : Hp} {s h : List Vl} {v : Vl} (hX : SX G (s ++ [v]) h) : SX { G with objs := upd G.objs 2 (some ⟨8, 1, s, 0, 0, 0⟩) } s (v :: h) where
  o1 := by rw [← occ_end]; simpa [upd] using hX.o1
  o2 := by simp [upd]
  o3 := by rw [← occ_end]; simpa [upd] using hX.o3
  no := fun n a b c => by simpa [upd, b] using hX.no n a b c
  tk := hX.tk
  buf := hX.buf
  ok := fun w hw => hX.ok w (by rw [List.append_assoc]; exact hw)
  len := by have := hX.len; simp only [List.length_append, List.length_cons, List.length_nil] at this ⊢; omega
theorem SX.more {G : Hp} {s h : List Vl} {v : Vl} (hX : SX G s h) (hv : plain v) (hl : s.length + h.length + 1 ≤ 2 ^ 30) : SX G s (v :: h) where
  o1 := by rw [occ_mid, if_neg hv.ne, Int.zero_add]; exact hX.o1
  o2 := hX.o2
  o3 := by rw [occ_mid, if_neg hv.net, Int.zero_add]; exact hX.o3
  no := hX.no
  tk := hX.tk
  buf := hX.buf
  ok := fun w hw => by
    simp only [List.mem_append, List.mem_cons] at hw
    rcases hw with hw | rfl | hw
    · exact hX.ok w (List.mem_append_left _ hw)
    · exact .inr (.inr hv)
    · exact hX.ok w (List.mem_append_right _ hw)
  len := by simp only [List.length_cons]; omega
theorem SX.less {G : Hp} {s h : List Vl} {v : Vl} (hX : SX G s (v :: h)) (hv : plain v) : SX G s h where
  o1 := by have := hX.o1; rw [occ_mid, if_neg hv.ne, Int.zero_add] at this; exact this
  o2 := hX.o2
  o3 := by have := hX.o3; rw [occ_mid, if_neg hv.net, Int.zero_add] at this; exact this
  no := hX.no
  tk := hX.tk
  buf := hX.buf
  ok := fun w hw => hX.ok w (by simp only [List.mem_append, List.mem_cons] at hw ⊢; rcases hw with hw | hw; exact .inl hw; exact .inr (.inr hw))
  len := by have := hX.len; simp only [List.length_cons] at this; omega
theorem drop_x (T : SkT tbl) {M : Mem} {hp : Pos} {P : Pos → Prop} {G : Hp} {s h : List Vl} {v : Vl} (hH : HeapIs M hp P G) (hX : SX G s (v :: h)) :
    CallW tbl 38 (.cons (.ptr hp 0) (.cons (VlA v) .nil)) M fun r M' => r = .ret (.int 3 0) ∧ (∃ G', HeapIs M' hp P G' ∧ SX G' s h) ∧ But (fun p => ¬ P p) M M' := by
  have hlen := hX.len
  simp only [List.length_cons] at hlen
  have hmem : ∀ w ∈ s ++ h, okV w := fun w hw => hX.ok w (by simp only [List.mem_append, List.mem_cons] at hw ⊢; rcases hw with hw | hw; exact .inl hw; exact .inr (.inr hw))
  rcases hX.ok v (by simp) with rfl | rfl | hv
  · have n0 := occ_nonneg fV (s ++ h)
    have n1 := occ_le fV (s ++ h)
    rw [List.length_append] at n1
    have e := occ_mid fV fV s h
    rw [if_pos rfl] at e
    have e' := occ_mid tV fV s h
    rw [if_neg (fun e => tV_ne e.symm), Int.zero_add] at e'
    have ho := hX.o1
    rw [e] at ho
    refine (drop_more T.h38 T.h71 T.h77 T.h81 T.h83 T.h85 T.h115 T.h117 T.h120 T.h143 (v := fV) hH refV_f ho rfl (show (7 : Int) ≠ 5 by decide) (by show 2 ≤ 1 + (1 + occ fV (s ++ h)) ∧ 1 + (1 + occ fV (s ++ h)) < _; omega) hX.buf_len).mono ?_
    rintro r M' ⟨rfl, hH', b⟩
    refine ⟨rfl, ⟨_, hH', ?_⟩, b⟩
    have ec : 1 + (1 + occ fV (s ++ h)) - 1 = 1 + occ fV (s ++ h) := by omega
    refine ⟨?_, ?_, ?_, fun n a b c => ?_, hX.tk, ?_, hmem, by omega⟩
    · simp only [upd, show fV.n = (1 : Int) from rfl, if_true, Option.some.injEq, Ob.mk.injEq, and_true, true_and]; omega
    · simpa [upd, show fV.n = (1 : Int) from rfl] using hX.o2
    · have e0 := hX.o3
      rw [e'] at e0
      simpa [upd, show fV.n = (1 : Int) from rfl] using e0
    · simpa [upd, show fV.n = (1 : Int) from rfl, a] using hX.no n a b c
    · rcases hX.buf with e | e | e | e | e <;> simp [e, fV]
  · have n0 := occ_nonneg tV (s ++ h)
    have n1 := occ_le tV (s ++ h)
    rw [List.length_append] at n1
    have e := occ_mid tV tV s h
    rw [if_pos rfl] at e
    have e' := occ_mid fV tV s h
    rw [if_neg tV_ne, Int.zero_add] at e'
    have ho := hX.o3
    rw [e] at ho
    refine (drop_more T.h38 T.h71 T.h77 T.h81 T.h83 T.h85 T.h115 T.h117 T.h120 T.h143 (v := tV) hH refV_t ho rfl (show (6 : Int) ≠ 5 by decide) (by show 2 ≤ 1 + (1 + occ tV (s ++ h)) ∧ 1 + (1 + occ tV (s ++ h)) < _; omega) hX.buf_len).mono ?_
    rintro r M' ⟨rfl, hH', b⟩
    refine ⟨rfl, ⟨_, hH', ?_⟩, b⟩
    have ec : 1 + (1 + occ tV (s ++ h)) - 1 = 1 + occ tV (s ++ h) := by omega
    refine ⟨?_, ?_, ?_, fun n a b c => ?_, hX.tk, ?_, hmem, by omega⟩
    · have e0 := hX.o1
      rw [e'] at e0
      simpa [upd, show tV.n = (3 : Int) from rfl] using e0
    · simpa [upd, show tV.n = (3 : Int) from rfl] using hX.o2
    · simp only [upd, show tV.n = (3 : Int) from rfl, if_true, Option.some.injEq, Ob.mk.injEq, and_true, true_and]; omega
    · simpa [upd, show tV.n = (3 : Int) from rfl, c] using hX.no n a b c
    · rcases hX.buf with e | e | e | e | e <;> simp [e, tV]
  · refine (drop_no T.h38 T.h71 T.h77 T.h81 T.h83 T.h85 T.h115 T.h117 T.h120 T.h143 hH (refV_no hv.1)).mono ?_
    rintro r M' ⟨rfl, b⟩
    exact ⟨rfl, ⟨G, hH.quiet b, hX.less hv⟩, b.any _⟩
theorem keep_x (T : SkT tbl) {M : Mem} {hp : Pos} {P : Pos → Prop} {G : Hp} {s h : List Vl} {v : Vl} (hH : HeapIs M hp P G) (hX : SX G s h) (hv : v = fV ∨ v = tV) (hl : s.length + h.length + 1 ≤ 2 ^ 30) :
    CallW tbl 18 (.cons (.ptr hp 0) (.cons (VlA v) .nil)) M fun r M' => r = .ret (.int 3 0) ∧ (∃ G', HeapIs M' hp P G' ∧ SX G' s (v :: h)) ∧ But (fun p => ¬ P p) M M' := by
  have hok : ∀ w ∈ s ++ v :: h, okV w := fun w hw => by
    simp only [List.mem_append, List.mem_cons] at hw
    rcases hw with hw | rfl | hw
    · exact hX.ok w (List.mem_append_left _ hw)
    · exact hv.elim .inl fun e => .inr (.inl e)
    · exact hX.ok w (List.mem_append_right _ hw)
  have hlen : s.length + (v :: h).length ≤ 2 ^ 30 := by simp only [List.length_cons]; omega
  rcases hv with rfl | rfl
  · have n0 := occ_nonneg fV (s ++ h)
    have n1 := occ_le fV (s ++ h)
    rw [List.length_append] at n1
    refine (keep_yes T.h18 T.h71 T.h77 T.h81 T.h85 T.h115 T.h117 T.h143 (v := fV) hH refV_f hX.o1 rfl (by show 1 + occ fV (s ++ h) ≠ 0; omega) (by show 0 ≤ 1 + occ fV (s ++ h) ∧ 1 + occ fV (s ++ h) < _; omega)).mono ?_
    rintro r M' ⟨rfl, hH', b⟩
    refine ⟨rfl, ⟨_, hH', ?_⟩, b⟩
    refine ⟨?_, ?_, ?_, fun n a b c => ?_, hX.tk, hX.buf, hok, hlen⟩
    · rw [occ_mid, if_pos rfl]
      simp only [upd, show fV.n = (1 : Int) from rfl, if_true, Option.some.injEq, Ob.mk.injEq, and_true, true_and]; omega
    · simpa [upd, show fV.n = (1 : Int) from rfl] using hX.o2
    · rw [occ_mid, if_neg (fun e => tV_ne e.symm), Int.zero_add]
      simpa [upd, show fV.n = (1 : Int) from rfl] using hX.o3
    · simpa [upd, show fV.n = (1 : Int) from rfl, a] using hX.no n a b c
  · have n0 := occ_nonneg tV (s ++ h)
    have n1 := occ_le tV (s ++ h)
    rw [List.length_append] at n1
    refine (keep_yes T.h18 T.h71 T.h77 T.h81 T.h85 T.h115 T.h117 T.h143 (v := tV) hH refV_t hX.o3 rfl (by show 1 + occ tV (s ++ h) ≠ 0; omega) (by show 0 ≤ 1 + occ tV (s ++ h) ∧ 1 + occ tV (s ++ h) < _; omega)).mono ?_
    rintro r M' ⟨rfl, hH', b⟩
    refine ⟨rfl, ⟨_, hH', ?_⟩, b⟩
    refine ⟨?_, ?_, ?_, fun n a b c => ?_, hX.tk, hX.buf, hok, hlen⟩
    · rw [occ_mid, if_neg tV_ne, Int.zero_add]
      simpa [upd, show tV.n = (3 : Int) from rfl] using hX.o1
    · simpa [upd, show tV.n = (3 : Int) from rfl] using hX.o2
    · rw [occ_mid, if_pos rfl]
      simp only [upd, show tV.n = (3 : Int) from rfl, if_true, Option.some.injEq, Ob.mk.injEq, and_true, true_and]; omega
    · simpa [upd, show tV.n = (3 : Int) from rfl, c] using hX.no n a b c
end Go.Proofs.Ythpnhdopheofcaa
end
section
namespace Go.Proofs.Ythpnhdopheofcaa
open Go.Dx
variable {tbl : Nat → Option CFunc}
theorem down_x (T : SkT tbl) {M : Mem} {sp : Pos} {P : Pos → Prop} {calls : List Fr} {G : Hp} {s h : List Vl} {m : Nat} (hS : StackIs M sp P 2 calls G) (hW : SX G s h) (hl : s.length ≤ 2 ^ 30) (hm : m < 2 ^ 31) :
    CallW tbl 73 (.cons (.ptr sp 0) (.cons (.int 3 m) .nil)) M fun r M' => r = .ret (.tuple .nil) ∧ (∃ G', StackIs M' sp P 2 calls G' ∧ SX G' (s.take m) h) ∧ But (fun p => ¬ P p) M M' ∧ M'.get sp = M.get sp := by
  refine CallW.wf fun hw => ?_
  refine CallW.intro T.h73 rfl (fr := .nod (.val .leaf (.ptr sp 0) .leaf) (.val .leaf (.int 3 m) .leaf)) rfl ?_
  simp only [go_sem, cf73]
  have w1 := hw.new (.cells [.ptr sp 0] false)
  have w2 := w1.new (.cells [.int 3 m] false)
  have hS1 := (hS.more hw (.cells [.ptr sp 0] false)).more w1 (.cells [.int 3 m] false)
  have hb0 := (But.new (S := fun p => ¬ P p) hw (.cells [.ptr sp 0] false)).trans (But.new w1 (.cells [.int 3 m] false))
  have x1 : ((M.new (.cells [.ptr sp 0] false)).new (.cells [.int 3 m] false)).get M.next = some (.cells [.ptr sp 0] false) := by simp only [go_sem]
  have x2 : ((M.new (.cells [.ptr sp 0] false)).new (.cells [.int 3 m] false)).get M.next.succ = some (.cells [.int 3 m] false) := by simp only [go_sem]
  have hnn : (M.new (.cells [.ptr sp 0] false)).next = M.next.succ := rfl
  rw [hnn] at hS1
  have hsp0 : ∃ x, M.get sp = some x := by
    obtain ⟨own, Z, rfl, h2, h3, h4⟩ := hS
    exact ⟨_, h3.spc⟩
  obtain ⟨xs, hxs⟩ := hsp0
  have hsp1 : ((M.new (.cells [.ptr sp 0] false)).new (.cells [.int 3 m] false)).get sp = some xs := by
    have h1 := hw.ne hxs
    have h2 : (sp = (M.new (.cells [.ptr sp 0] false)).next) = False := eq_false fun e => by have := hw _ _ hxs; rw [e, hnn, Pos.num_succ] at this; omega
    simp only [go_sem, hxs, h1, hnn, h2]
    rw [hnn] at h2
    rw [if_neg (of_eq_false h2)]
  rw [hxs]
  generalize hb : M.next = b at *
  generalize hb2 : b.succ = b2 at *
  generalize hM1 : (M.new (.cells [.ptr sp 0] false)).new (.cells [.int 3 m] false) = M1 at *
  refine loop_wp (I := fun n fr M' => ∃ G', n ≤ s.length ∧ (m ≤ n ∨ n = s.length) ∧ M'.wf ∧ StackIs M' sp (fun p => (P p ∨ p = b) ∨ p = b2) 2 calls G' ∧ SX G' (s.take n) h ∧ But (fun p => ¬ ((P p ∨ p = b) ∨ p = b2)) M1 M' ∧ M'.get sp = some xs ∧ fr.get (.o (.o .h)) = some (.ptr b 0) ∧ fr.get (.o (.i .h)) = some (.func (.func 116) .nil (.cons (.ptr b 0) (.cons (.ptr b2 0) .nil)))) (n := s.length) ?_ ?_
  · exact ⟨G, Nat.le_refl _, .inr rfl, w2, hS1, by rw [List.take_length]; exact hW, But.refl _ _, hsp1, rfl, rfl⟩
  · rintro n fr M' ⟨G', i1, i2, i3, i4, i5, i6, i7, f1, f2⟩
    have y1 := i6.get _ _ (fun e => e (.inl (.inr rfl))) x1
    have y2 := i6.get _ _ (fun e => e (.inr rfl)) x2
    obtain ⟨o, e1, e3⟩ : ∃ o, G'.objs 2 = some o ∧ o.slots = s.take n := ⟨_, i5.o2, rfl⟩
    have e4 : o.slots.length = n := by rw [e3, List.length_take]; omega
    simp only [go_sem, f1, f2]
    refine (over_spec T i4 e1 (by omega) y1 y2).use ?_
    rintro r M2 hw2 ⟨rfl, b2'⟩
    have i4' := i4.quiet b2'
    have z1 := b2'.get _ _ id y1
    have i7' := b2'.get _ _ id i7
    rw [e4]
    by_cases hlt : m < n
    · have g : decide ((m : Int) < n) = true := by simp; omega
      obtain ⟨v, hv⟩ : ∃ v, s.take n = s.take (n - 1) ++ [v] := by
        obtain ⟨v, hv⟩ := snoc (l := s.take n) (n := 0) (by rw [List.length_take]; omega)
        refine ⟨v, ?_⟩
        rw [List.length_take, Nat.min_eq_left i1, List.take_take, Nat.min_eq_left (by omega)] at hv
        exact hv
      rw [hv] at e3 i5
      simp only [go_sem, g, f1, z1]
      have i4r := i4'.wide (But_reserve M2 _) (Nat.le_refl _) (by show M2.next.num < M2.next.succ.num; rw [Pos.num_succ]; omega)
      refine (n_spec T.h69 i4r).use ?_
      rintro r M3 hw3 ⟨rfl, rfl⟩
      obtain ⟨own, Z, rfl, hP, hB, hH⟩ := i4r
      have hspc : M2.get Z.sp = some (.cells [.ptr Z.hp 0, .int 3 8, .int 3 2, Z.cv] false) := hB.spc
      simp only [go_sem, f1, z1, hspc]
      refine (pop_some T.h37 T.h75 T.h80 T.h81 T.h85 hH e1 e3 (by simp only [most]; omega)).use ?_
      rintro r M4 hw4 ⟨rfl, hH4, b4⟩
      obtain ⟨s4, b4'⟩ := StackIs.heap hP hB hH4 b4
      have z4 : M4.get b = some (.cells [.ptr Z.sp 0] false) := b4'.get _ _ (fun e => e (.inl (.inl (.inr rfl)))) z1
      have hq : (M2.next.num < M4.next.num) = True := eq_true (by have := b4.next; have e : M2.next.succ.num ≤ M4.next.num := this; rw [Pos.num_succ] at e; omega)
      have ne1 := hw2.ne z1
      have ne2 := hw2.ne hspc
      have hsp4 : M4.get Z.sp = some (.cells [.ptr Z.hp 0, .int 3 8, .int 3 2, Z.cv] false) := b4.get _ _ (fun e => e (.inr (by rw [hB.spo]; simp))) hspc
      have eo : o = ⟨8, 1, s.take (n - 1) ++ [v], 0, 0, 0⟩ := by have := i5.o2; rw [e1] at this; exact Option.some.inj this
      subst eo
      have i5' := i5.pop
      obtain ⟨vk, vn⟩ := v
      have bp : But (fun p => p = M2.next) M4 ((M4.put M2.next (.cells [.int 3 0, .int 3 0] false)).put M2.next (.cells [.int 3 vk, .int 3 vn] false)) :=
        (But.put (S := fun p => p = M2.next) (p := M2.next) _ rfl _).trans (But.put (S := fun p => p = M2.next) (p := M2.next) _ rfl _)
      have s5 := s4.frame (bp.mono fun p hp => .inr hp)
      simp only [go_sem, f1, z4, VlA, hq, ne1, ne2, hsp4]
      obtain ⟨own', Z', hz, hP', hB', hH'⟩ := s5
      have hzz : Z'.hp = Z.hp := by
        have h1 := hB'.spc
        simp only [go_sem, hz, ne2, hsp4] at h1
        simp only [Option.some.injEq, MB.cells.injEq, List.cons.injEq, AV.ptr.injEq] at h1
        exact h1.1.1.1.symm
      rw [hzz] at hH'
      refine (drop_x T (v := ⟨vk, vn⟩) hH' i5').use ?_
      rintro r M6 hw6 ⟨rfl, ⟨G6, hH6, hW6⟩, b6⟩
      rw [← hzz] at hH6
      obtain ⟨s6, b6'⟩ := StackIs.heap hP' hB' hH6 b6
      simp only [go_sem]
      refine ⟨n - 1, by omega, G6, by omega, .inl (by omega), hw6, (hz ▸ s6).less fun p hp => .inl hp, ?_, ?_, ?_, ?_, ?_⟩
      · exact hW6
      · have hlo : ∀ p, ((P p ∨ p = b) ∨ p = b2) → p.num < M'.next.num := fun p hp => by obtain ⟨_, _, _, h2, _⟩ := i4; exact (h2 p hp).2
        have t1 := i6.trans (((b2'.trans (But_reserve M2 _)).any _).trans (b4'.mono fun p hn hp => hn (.inl hp)))
        have t2 := t1.trans (bp.mono fun p e hp => by subst e; have := hlo _ hp; have := b2'.next; omega)
        exact t2.trans (b6'.mono fun p hn hp => hn (.inl hp))
      · have e0 : Z.sp ≠ M2.next := of_eq_false ne2
        have e1 : some xs = _ := i7'.symm.trans hspc
        have e5 : ((M4.put M2.next (.cells [.int 3 0, .int 3 0] false)).put M2.next (.cells [.int 3 vk, .int 3 vn] false)).get Z.sp = some (.cells [.ptr Z.hp 0, .int 3 8, .int 3 2, Z.cv] false) := by simp [Mem.put, e0, hsp4]
        rw [e1]
        exact b6.get _ _ (fun e => e (.inr (by rw [← hz, hB'.spo]; simp))) e5
      · simp [Tr.get_set, f1]
      · simp [Tr.get_set, f2]
    · have g : decide ((m : Int) < n) = false := by simp; omega
      simp only [go_sem, g]
      refine ⟨⟨G', i4'.less fun p hp => .inl (.inl hp), ?_⟩, hb0.trans (((i6.trans (b2'.any _))).mono fun p hn hp => hn (.inl (.inl hp))), i7'⟩
      rcases i2 with hx | hx
      · have : n = m := by omega
        subst this
        exact i5
      · subst hx
        rw [List.take_length] at i5
        rw [List.take_of_length_le (by omega)]
        exact i5
theorem hpush_x (T : SkT tbl) {M : Mem} {sp hp : Pos} {cv : AV} {P : Pos → Prop} {calls : List Fr} {G : Hp} {s h : List Vl} {v : Vl} (hS : StackIs M sp P 2 calls G) (hz : M.get sp = spC hp 2 cv) (hW : SX G s (v :: h)) (hl : s.length ≤ 2 ^ 30) :
    CallW tbl 68 (.cons (.ptr hp 0) (.cons (.int 3 2) (.cons (VlA v) .nil))) M fun r M' => r = .ret (.int 3 0) ∧ (∃ G', StackIs M' sp P 2 calls G' ∧ SX G' (s ++ [v]) h) ∧ But (fun p => ¬ P p) M M' ∧ M'.get sp = spC hp 2 cv := by
  obtain ⟨own, Z, rfl, rfl, rfl, hP, hB, hH⟩ := hS.open_ hz
  have hth : thereV G v = true := hW.there (hW.ok v (by simp))
  refine (push_ok T.h68 T.h75 T.h77 T.h81 T.h85 T.h115 T.h117 T.h143 hH hW.o2 (show (8 : Int) ≠ 5 by decide) hth (by show s.length + 1 ≤ _; simp only [most]; omega)).mono ?_
  rintro r M' ⟨rfl, hH', b⟩
  obtain ⟨s1, s2⟩ := StackIs.heap hP hB hH' b
  exact ⟨rfl, ⟨_, s1, hW.push⟩, s2, b.get _ _ (fun e => e (.inr (by rw [hB.spo]; simp))) hz⟩
theorem hpop_x (T : SkT tbl) {M : Mem} {sp hp : Pos} {cv : AV} {P : Pos → Prop} {calls : List Fr} {G : Hp} {s h : List Vl} {v : Vl} (hS : StackIs M sp P 2 calls G) (hz : M.get sp = spC hp 2 cv) (hW : SX G (s ++ [v]) h) (hl : s.length ≤ 2 ^ 30) :
    CallW tbl 37 (.cons (.ptr hp 0) (.cons (.int 3 2) .nil)) M fun r M' => r = .ret (.tuple (.cons (VlA v) (.cons (.int 3 0) .nil))) ∧ (∃ G', StackIs M' sp P 2 calls G' ∧ SX G' s (v :: h)) ∧ But (fun p => ¬ P p) M M' ∧ M'.get sp = spC hp 2 cv := by
  obtain ⟨own, Z, rfl, rfl, rfl, hP, hB, hH⟩ := hS.open_ hz
  refine (pop_some T.h37 T.h75 T.h80 T.h81 T.h85 hH hW.o2 rfl (by show (s ++ [v]).length ≤ _; simp only [most, List.length_append, List.length_cons, List.length_nil]; omega)).mono ?_
  rintro r M' ⟨rfl, hH', b⟩
  obtain ⟨s1, s2⟩ := StackIs.heap hP hB hH' b
  exact ⟨rfl, ⟨_, s1, hW.pop⟩, s2, b.get _ _ (fun e => e (.inr (by rw [hB.spo]; simp))) hz⟩
end Go.Proofs.Ythpnhdopheofcaa
end
section
namespace Go.Proofs.Ythpnhdopheofcaa
open Go.Dx
variable {tbl : Nat → Option CFunc}
theorem throw_x (T : SkT tbl) {M : Mem} {sp : Pos} {P : Pos → Prop} {cs post : List Fr} {f : Fr} {G : Hp} {s h : List Vl} {ts : List (Int × Int)} {hh : Nat} {tg : Int} {v : Vl} {csl : List Fr} {fl : Fr} {o : Ob} (hgl : cs ++ [f] ++ post = csl ++ [fl]) (hg : Good G 2 csl fl o)
    (hS : StackIs M sp P 2 (cs ++ [f] ++ post) G) (hW : SX G s (v :: h)) (hpost : ∀ g ∈ post, g.tries = []) (hf : f.tries = ts ++ [((hh : Int), tg)]) (htl : f.tries.length < 2 ^ 30) {bs : Nat} (hb : f.base = bs) (hhs : bs + 1 + hh < 2 ^ 31) :
    CallW tbl 20 (.cons (.ptr sp 0) (.cons (VlA v) .nil)) M fun r M' => r = .ret (.tuple (.cons (.bool true) (.cons (.int 3 0) .nil))) ∧ (∃ G', StackIs M' sp P 2 (cs ++ [{ f with tries := ts, pc := tg }]) G' ∧ SX G' (s.take (bs + 1 + hh) ++ [v]) h) ∧ But (fun p => ¬ P p) M M' ∧ ∀ hp, HpOf M sp hp → HpOf M' sp hp := by
  refine CallW.wf fun hw => ?_
  obtain ⟨vk, vn⟩ := v
  refine CallW.intro T.h20 rfl (fr := .nod (.val .leaf (.ptr sp 0) .leaf) (.val .leaf (VlA ⟨vk, vn⟩) .leaf)) rfl ?_
  simp only [go_sem, cf20, VlA]
  have b0 := But.new (S := fun _ => False) hw (.cells [.int 3 vk, .int 3 vn] false)
  have hS0 := hS.more hw (.cells [.int 3 vk, .int 3 vn] false)
  rw [hgl] at hS0
  refine (hg.state T hS0).use ?_
  rintro r M1 hw1 ⟨rfl, b1⟩
  have hS1 := hS0.quiet b1
  have x1 : M1.get M.next = some (.cells [.int 3 vk, .int 3 vn] false) := b1.get _ _ id (by simp only [go_sem])
  generalize hbx : M.next = b at *
  simp only [go_sem]
  obtain ⟨hp, cv, hz⟩ := hS1.cells
  have hz' := hz
  simp only [spC] at hz'
  have hco := hg.len
  simp only [go_sem, hz']
  refine (n_spec T.h69 hS1).use ?_
  rintro r M2 hw2 ⟨rfl, rfl⟩
  simp only [go_sem, x1]
  have hl : s.length ≤ 2 ^ 30 := by
    have := hW.len; omega
  refine (hpush_x T (v := ⟨vk, vn⟩) hS1 hz hW hl).use ?_
  rintro r M3 hw3 ⟨rfl, ⟨G3, hS3, hW3⟩, b3, hz3⟩
  have x3 := b3.get _ _ (fun e => e (.inr rfl)) x1
  have hz3' := hz3
  simp only [spC] at hz3'
  simp only [go_sem]
  refine (n_spec T.h69 hS3).use ?_
  rintro r M4 hw4 ⟨rfl, rfl⟩
  simp only [go_sem, hz3']
  refine (hpop_x T hS3 hz3 hW3 hl).use ?_
  rintro r M5 hw5 ⟨rfl, ⟨G5, hS5, hW5⟩, b5, hz5⟩
  have x5 := b5.get _ _ (fun e => e (.inr rfl)) x3
  simp only [go_sem]
  rw [← hgl] at hS5
  have hb5 := b3.trans b5
  have hgc : csl.length < 2 ^ 30 := hg.calls
  have hle : (cs ++ [f] ++ post).length = csl.length + 1 := by rw [hgl]; simp
  simp only [List.length_append, List.length_cons, List.length_nil] at hle
  refine loop_wp (I := fun n fr M' => M'.wf ∧ n ≤ post.length ∧ (∃ G', StackIs M' sp (fun p => P p ∨ p = b) 2 (cs ++ [f] ++ post.take n) G' ∧ SX G' s (⟨vk, vn⟩ :: h)) ∧ But (fun p => ¬ (P p ∨ p = b)) M5 M' ∧ (∃ cv', M'.get sp = spC hp 2 cv') ∧
    fr.get (.o .h) = some (.ptr sp 0) ∧ fr.get (.i (.o .h)) = some (.ptr b 0) ∧ fr.get (.i (.o (.o .h))) = some (.func (.func 68) (.cons (.ptr hp 0) .nil) .nil)) (n := post.length) ?_ ?_
  · exact ⟨hw5, Nat.le_refl _, ⟨G5, by rw [List.take_length]; exact hS5, hW5⟩, But.refl _ _, ⟨_, hz5⟩, rfl, rfl, rfl⟩
  · rintro n fr M' ⟨i1, i2, ⟨G6, i3, i4⟩, i5, ⟨cv6, hz6⟩, f1, f2, f3⟩
    have x6 := i5.get _ _ (fun e => e (.inr rfl)) x5
    obtain ⟨own, Z, rfl, rfl, rfl, hP, hB, hH⟩ := i3.open_ hz6
    have hz6' := hz6
    simp only [spC] at hz6'
    have hlen := hB.cal.len
    rw [frL_len] at hlen
    simp only [List.length_append, List.length_cons, List.length_nil, List.length_take, Nat.min_eq_left i2] at hlen
    have g1 : decide (0 < ((cs.length + (0 + 1) + n : Nat) : Int)) = true := by simp; omega
    simp only [go_sem, f1, hz6', hlen, g1]
    cases n with
    | zero =>
      simp only [List.take_zero, List.append_nil] at hB i3
      obtain ⟨p, po, pn, a1, htop, c0, c1, c2, hown⟩ := Good.top T hB (by omega)
      refine htop.use ?_
      rintro r M7 hw7 ⟨rfl, rfl⟩
      have htr := hB.tries
      have tlen := htr.len
      rw [hf] at tlen htr htl
      have tl2 : (PairL (ts ++ [((hh : Int), tg)])).length = ts.length + 1 := by simp [PairL]
      rw [tl2] at tlen
      have htl' : ts.length + 1 < 2 ^ 30 := by simpa using htl
      have g2 : decide ((0 : Int) < ((ts.length + 1 : Nat) : Int)) = true := by simp only [decide_eq_true_eq]; omega
      have e9 : IntKind.i64.wrap (((ts.length + 1 : Nat) : Int) - 1) = ((ts.length : Nat) : Int) := by rw [wrap64 (by omega) (by omega)]; omega
      obtain ⟨q, qo, q1, q2⟩ := htr.rows.at_ (i := ts.length) (Nat.lt_of_lt_of_eq (Nat.lt_succ_self _) tl2.symm)
      rw [tl2] at q1
      have q3 : (PairL (ts ++ [((hh : Int), tg)]))[ts.length]? = some [.int 3 hh, .int 3 tg] := by simp [PairL]
      rw [q3] at q2
      have g4 : ts.length < ts.length + 1 := by omega
      have b7 := But.fill hw7 (.cells [.int 3 0, .int 3 0] false) (.cells [.int 3 hh, .int 3 tg] false)
      have w8 := hw7.fill (.cells [.int 3 0, .int 3 0] false) (.cells [.int 3 hh, .int 3 tg] false)
      have hbp : ∃ bp, M7.get p = some bp := by
        cases hx : M7.get p with
        | none => rw [hx] at c0; cases c0
        | some bp => exact ⟨bp, rfl⟩
      obtain ⟨bp, hbp⟩ := hbp
      have nep := hw7.ne hbp
      have nep' := hw7.ne' hbp
      have i3' := i3
      have hB8 := hB.keep (b7.any _)
      have htr8 := hB8.tries
      rw [hf] at htr8
      obtain ⟨v8, p8, s8⟩ := htr8.take_ (by omega) (k := ts.length) (by rw [tl2]; omega)
      have hc8 := s8.cell
      have s8' : SlO ((M7.new (.cells [.int 3 0, .int 3 0] false)).put M7.next (.cells [.int 3 hh, .int 3 tg] false)) own (22, (cs.length : Int)) v8 2 (PairL ts) := by
        have e : (PairL (ts ++ [((hh : Int), tg)])).take ts.length = PairL ts := by simp [PairL]
        rw [e] at s8; exact s8
      have hx8 : ((M7.new (.cells [.int 3 0, .int 3 0] false)).put M7.next (.cells [.int 3 hh, .int 3 tg] false)).get M7.next = some (.cells [.int 3 hh, .int 3 tg] false) := by simp [Mem.put]
      obtain ⟨c9, st9, tv9, hB9⟩ := hB8.setTries a1 s8'
      have hbp8 := b7.get _ _ id hbp
      have hz8 := b7.get _ _ id hz6'
      have hH8 := hH.quiet b7
      have w9 := w8.put hbp8 c9
      obtain ⟨c10, st10, tv10, hB10⟩ := hB9.setPc a1 tg
      have w10 := w9.put (p := p) (o := c9) (by simp [Mem.put]) c10
      have nsp : (Z.sp = p) = False := eq_false fun e => by have := hB.spo; rw [e, hown] at this; cases this
      obtain ⟨r1, r2⟩ := StackIs.step (t := (0, 0)) (fun p hp => ⟨(hP p hp).1, Nat.lt_of_lt_of_le (hP p hp).2 b7.next⟩) hH8 (OwnUp.refl _ _ _ _) ((But.put (p := p) _ (by rw [hown]; simp) _).trans (But.put (p := p) _ (by rw [hown]; simp) _)) hB10 rfl
      obtain ⟨p', po', pn', a1', htop', d0, d1, d2, hown'⟩ := Good.top T hB10 (by omega)
      rw [a1] at a1'
      cases a1'
      generalize hM8 : (M7.new (.cells [.int 3 0, .int 3 0] false)).put M7.next (.cells [.int 3 hh, .int 3 tg] false) = M8 at *
      have c2' : MB.cell (M8.get p) (po + cs.length * 3 + 2) = some (Z.tv cs.length) := by rw [hbp8]; rw [hbp] at c2; exact c2
      simp only [go_sem, c2, tlen, g2, e9, q1, q2, g4, hM8]
      have st10' := st10
      simp only [go_sem] at st10'
      have d0' : MB.cell (some c10) (po + cs.length * 3) = some (.int 3 bs) := by simpa [Mem.put, hb] using d0
      have z1 : IntKind.i64.wrap ((bs : Int) + 1) = ((bs + 1 : Nat) : Int) := by rw [wrap64 (by omega) (by omega)]; omega
      have z2 : IntKind.i64.wrap (((bs + 1 : Nat) : Int) + hh) = ((bs + 1 + hh : Nat) : Int) := by rw [wrap64 (by omega) (by omega)]; omega
      simp only [go_sem, c2', e9, p8, hc8, st9, hx8, nep, nep', st10', d0', z1, z2, f1, f2, f3, Nat.add_zero]
      refine (down_x T r1 i4 hl (by omega)).use ?_
      rintro r M11 hw11 ⟨rfl, ⟨G11, hS11, hW11⟩, b11, hz11⟩
      have hz10 : ((M8.put p c9).put p c10).get Z.sp = spC Z.hp 2 Z.cv := by
        have e0 : ¬ (Z.sp = p) := of_eq_false nsp
        simp only [Mem.put, if_neg e0]
        exact hz8
      rw [hz10] at hz11
      have x8 : M8.get b = some (.cells [.int 3 vk, .int 3 vn] false) := b7.get _ _ id x6
      have r2' := r2.get _ _ (fun e => e (.inr rfl)) x8
      have x11 := b11.get _ _ (fun e => e (.inr rfl)) r2'
      simp only [go_sem, f1]
      refine (n_spec T.h69 hS11).use ?_
      rintro r M12 hw12 ⟨rfl, rfl⟩
      simp only [go_sem, f1, f2, f3, x11]
      have hl2 : (s.take (bs + 1 + hh)).length ≤ 2 ^ 30 := by rw [List.length_take]; omega
      refine (hpush_x T (v := ⟨vk, vn⟩) hS11 hz11 hW11 hl2).use ?_
      rintro r M13 hw13 ⟨rfl, ⟨G13, hS13, hW13⟩, b13, hz13⟩
      simp only [go_sem]
      exact ⟨⟨G13, hS13.less fun p hp => .inl hp, hW13⟩, ((b0.trans b1).any _).trans (((((hb5.trans i5).trans (b7.any _)).trans r2).trans (b11.trans b13)).mono fun p hn hp => hn (.inl hp)), fun hp0 h0 => by
        have e := h0.same (b0.trans b1) hz'
        subst e
        exact ⟨_, _, hz13⟩⟩
    | succ k =>
      have hk : k < post.length := by omega
      have e7 : cs ++ [f] ++ post.take (k + 1) = (cs ++ [f] ++ post.take k) ++ [post[k]] := by rw [List.take_succ_eq_append_getElem hk]; simp only [List.append_assoc]
      rw [e7] at hB i3
      have l7 : (cs ++ [f] ++ post.take k).length = cs.length + (0 + 1) + k := by simp only [List.length_append, List.length_cons, List.length_nil, List.length_take]; omega
      obtain ⟨p, po, pn, a1, htop, c0, c1, c2, hown⟩ := Good.top T hB (by omega)
      refine htop.use ?_
      rintro r M7 hw7 ⟨rfl, rfl⟩
      have htr := hB.tries
      rw [hpost _ (List.getElem_mem hk)] at htr
      have tlen := htr.len
      simp only [PairL, List.map_nil, List.length_nil] at tlen
      have g2 : decide ((0 : Int) < ((0 : Nat) : Int)) = false := rfl
      obtain ⟨v8, p8, hc8, hB8⟩ := hB.pop
      rw [l7] at p8
      have e8 : IntKind.i64.wrap (((cs.length + (0 + 1) + (k + 1) : Nat) : Int) - 1) = ((cs.length + (0 + 1) + k : Nat) : Int) := by rw [wrap64 (by omega) (by omega)]; omega
      simp only [go_sem, c2, tlen, g2, f1, hz6', hlen, e8, p8, hc8]
      obtain ⟨r1, r2⟩ := StackIs.step (M' := M7.put Z.sp (.cells [.ptr Z.hp 0, .int 3 8, .int 3 2, v8] false)) (t := (0, 0)) hP hH (OwnUp.refl _ _ _ _) (But.put (p := Z.sp) _ (by rw [hB.spo]; simp) _) hB8 rfl
      exact ⟨k, by omega, hw7.put hz6' _, by omega, ⟨G6, r1, i4⟩, i5.trans r2, ⟨v8, by simp [Mem.put, spC]⟩, by simp [Tr.get_set, f1], by simp [Tr.get_set, f2], by simp [Tr.get_set, f3]⟩
end Go.Proofs.Ythpnhdopheofcaa
end
section
namespace Go.Proofs.Ythpnhdopheofcaa
open Go.Dx
variable {tbl : Nat → Option CFunc}
theorem enter_x (T : SkT tbl) {M : Mem} {sp : Pos} {P : Pos → Prop} {cs : List Fr} {f : Fr} {G : Hp} {s h : List Vl} {o : Ob} {a q bs : Nat} (hg : Good G 2 cs f o) (hS : StackIs M sp P 2 (cs ++ [f]) G) (hW : SX G s h) (hs : o.slots = s) (hb : f.base = bs)
    (ha : bs + 1 + a < s.length) (hq : q ≤ 20) (hk : ∀ x, s[s.length - 1 - a]? = some x → x.k = 7) (hn : cs.length < 99) (hl : s.length + h.length + 21 ≤ 2 ^ 30) :
    CallW tbl 19 (.cons (.ptr sp 0) (.cons (.int 3 a) (.cons (.int 3 q) .nil))) M fun r M' => r = .ret (.int 3 0) ∧ (∃ G', StackIs M' sp P 2 (cs ++ [f] ++ [⟨((s.length - 1 - a : Nat) : Int), 0, []⟩]) G' ∧ SX G' (s.take (s.length - 1 - a + 1 + q) ++ List.replicate (q - a) nilV) h) ∧ But (fun p => ¬ P p) M M' ∧ ∀ hp, HpOf M sp hp → HpOf M' sp hp := by
  refine CallW.wf fun hw => ?_
  refine CallW.intro T.h19 rfl (fr := .nod (.val (.val .leaf (.int 3 q) .leaf) (.ptr sp 0) .leaf) (.val .leaf (.int 3 a) .leaf)) rfl ?_
  simp only [go_sem, cf19]
  refine (hg.state T hS).use ?_
  rintro r M1 hw1 ⟨rfl, b1⟩
  have hS1 := hS.quiet b1
  simp only [go_sem]
  refine (height_spec T hg hS1).use ?_
  rintro r M2 hw2 ⟨rfl, b2⟩
  have hS2 := hS1.quiet b2
  have hol := hg.len
  rw [hs, hb]
  have g1 : decide ((a : Int) < 0) = false := by simp only [decide_eq_false_iff_not]; omega
  have g2 : decide ((s.length : Int) - bs - 1 ≤ a) = false := by simp only [decide_eq_false_iff_not]; omega
  have g3 : decide ((q : Int) < 0) = false := by simp only [decide_eq_false_iff_not]; omega
  have g4 : decide ((20 : Int) < q) = false := by simp only [decide_eq_false_iff_not]; omega
  have e1 : IntKind.i64.wrap ((s.length : Int) - bs - 1 - 1) = (s.length : Int) - bs - 2 := by rw [wrap64 (by omega) (by omega)]; omega
  have e2 : IntKind.i64.wrap ((s.length : Int) - bs - 2 - a) = (s.length : Int) - bs - 2 - a := by rw [wrap64 (by omega) (by omega)]
  simp only [go_sem, g1, g2, g3, g4, e1, e2]
  refine (reg_spec T hg hS2 (j := s.length - 1 - a) (by rw [hs]; omega) (by omega) (by rw [hb]; omega)).use ?_
  rintro r M3 hw3 ⟨rfl, b3⟩
  have hS3 := hS2.quiet b3
  have hk' : (o.slots[s.length - 1 - a]'(by rw [hs]; omega)).k = 7 := hk _ (by subst hs; rw [List.getElem?_eq_getElem])
  have g5 : ((o.slots[s.length - 1 - a]'(by rw [hs]; omega)).k != 7) = false := by rw [hk']; rfl
  obtain ⟨hp, cv, hz⟩ := hS3.cells
  obtain ⟨own, Z, rfl, rfl, rfl, hP, hB, hH⟩ := hS3.open_ hz
  have hz' := hz
  simp only [spC] at hz'
  have hlen := hB.cal.len
  rw [frL_len] at hlen
  simp only [List.length_append, List.length_cons, List.length_nil] at hlen
  have g6 : decide ((100 : Int) ≤ ((cs.length + (0 + 1) : Nat) : Int)) = false := by simp only [decide_eq_false_iff_not]; omega
  simp only [go_sem, VlA, g5, hz', hlen, g6]
  refine (hg.slots T hS3).use ?_
  rintro r M4 hw4 ⟨rfl, b4⟩
  rw [hs]
  have hz4 := b4.get _ _ id hz'
  have e3 : IntKind.i64.wrap ((s.length : Int) - 1) = (s.length : Int) - 1 := by rw [wrap64 (by omega) (by omega)]
  have e4 : IntKind.i64.wrap ((s.length : Int) - 1 - a) = ((s.length - 1 - a : Nat) : Int) := by rw [wrap64 (by omega) (by omega)]; omega
  have hB4 := hB.keep (b4.any _)
  have hH4 := hH.quiet b4
  obtain ⟨v5, M5, own5, p5, s5, u5, b5, w5⟩ := hB4.cal.push_ hw4 hB4.inn (n := 1) (c := 1) (X := [FrR ⟨((s.length - 1 - a : Nat) : Int), 0, []⟩ .nilslice]) (x := [.int 3 ((s.length - 1 - a : Nat) : Int), .int 3 0, .nilslice]) rfl rfl (by simp [FrR, isCell]) (by omega) (by rw [frL_len]; simp only [most, List.length_append, List.length_cons, List.length_nil]; omega)
  have hc5 := s5.cell
  have hz5 : M5.get Z.sp = some (.cells [.ptr Z.hp 0, .int 3 8, .int 3 2, Z.cv] false) := b5.get _ _ (fun e => by rw [hB4.spo] at e; cases e) hz4
  clear hk hk' g5
  generalize hbb : s.length - 1 - a = bb at *
  rw [frL_snoc] at s5
  have hl5 : (cs ++ [f]).length = cs.length + 1 := by simp
  have hB5 := hB4.calls u5 b5 s5 (fun i hi => by
    by_cases e : i < (cs ++ [f]).length
    · exact .inl ⟨e, by rw [if_neg (by omega)], by rw [List.getElem_append_left e]⟩
    · have e' : i = (cs ++ [f]).length := by simp only [List.length_append, List.length_cons, List.length_nil] at hi e ⊢; omega
      subst e'
      exact .inr ⟨if_pos rfl, by simp⟩) rfl
  obtain ⟨r1, r2⟩ := StackIs.step (own := own) (Z := Z) (M' := M5.put Z.sp (.cells [.ptr Z.hp 0, .int 3 8, .int 3 2, v5] false)) (fun p hp => ⟨(hP p hp).1, Nat.lt_of_lt_of_le (hP p hp).2 b4.next⟩) hH4 u5 ((b5.mono (fun p e => by rw [e]; simp)).trans (But.put (p := Z.sp) _ (by rw [hB4.spo]; simp) _)) hB5 rfl
  have e5 : IntKind.i64.wrap ((bb : Int) + 1) = ((bb + 1 : Nat) : Int) := by rw [wrap64 (by omega) (by omega)]; omega
  have e6 : IntKind.i64.wrap (((bb + 1 : Nat) : Int) + q) = ((bb + 1 + q : Nat) : Int) := by rw [wrap64 (by omega) (by omega)]; omega
  simp only [go_sem, e3, e4, hz4, p5, hz5, hc5, e5, e6]
  refine (down_x T r1 hW (by omega) (by omega)).use ?_
  rintro r M6 hw6 ⟨rfl, ⟨G6, hS6, hW6⟩, b6, hz6⟩
  have hz6' : M6.get Z.sp = spC Z.hp 2 v5 := by rw [hz6]; simp [Mem.put, spC]
  have hll : (s.take (bb + 1 + q)).length ≤ s.length := by rw [List.length_take]; omega
  simp only [go_sem]
  refine loop_wp (I := fun n fr M' => M'.wf ∧ n ≤ q - a ∧ (∃ G', StackIs M' Z.sp P 2 (cs ++ [f] ++ [⟨(bb : Int), 0, []⟩]) G' ∧ SX G' (s.take (bb + 1 + q) ++ List.replicate (q - a - n) nilV) h) ∧ But (fun p => ¬ P p) M6 M' ∧ M'.get Z.sp = spC Z.hp 2 v5 ∧
    fr.get (.o .h) = some (.ptr Z.sp 0) ∧ fr.get (.i .h) = some (.int 3 ((a + (q - a - n) : Nat) : Int)) ∧ fr.get (.o (.o .h)) = some (.int 3 q)) (n := q - a) ?_ ?_
  · exact ⟨hw6, Nat.le_refl _, ⟨G6, hS6, by rw [Nat.sub_self]; simpa using hW6⟩, But.refl _ _, hz6', rfl, by simp [Tr.get], rfl⟩
  · rintro n fr M' ⟨i1, i2, ⟨G7, i3, i4⟩, i5, i6, f1, f2, f3⟩
    have i6' := i6
    simp only [spC] at i6'
    cases n with
    | zero =>
      have g7 : decide (((a + (q - a - 0) : Nat) : Int) < q) = false := by simp only [decide_eq_false_iff_not]; omega
      simp only [go_sem, f1, f2, f3, g7]
      rw [Nat.sub_zero] at i4
      exact ⟨⟨G7, i3, i4⟩, ((((b1.trans b2).trans b3).trans b4).any _).trans ((r2.trans b6).trans i5), fun hp0 h0 => by
        have e := h0.same ((b1.trans b2).trans b3) hz'
        subst e
        exact ⟨_, _, i6⟩⟩
    | succ k =>
      have g7 : decide (((a + (q - a - (k + 1)) : Nat) : Int) < q) = true := by simp only [decide_eq_true_eq]; omega
      simp only [go_sem, f1, f2, f3, g7]
      refine (n_spec T.h69 i3).use ?_
      rintro r M8 hw8 ⟨rfl, rfl⟩
      simp only [go_sem, f1, i6']
      refine (hpush_x T (v := nilV) i3 i6 (i4.more nil_plain (by rw [List.length_append, List.length_replicate]; omega)) (by rw [List.length_append, List.length_replicate]; omega)).use ?_
      rintro r M9 hw9 ⟨rfl, ⟨G9, hS9, hW9⟩, b9, hz9⟩
      have e8 : q - a - k = (q - a - (k + 1)) + 1 := by omega
      have e9 : IntKind.i64.wrap (((a + (q - a - (k + 1)) : Nat) : Int) + 1) = ((a + (q - a - k) : Nat) : Int) := by rw [wrap64 (by omega) (by omega)]; omega
      simp only [go_sem, f1, f2, f3, e9]
      refine ⟨k, by omega, hw9, by omega, ⟨G9, hS9, ?_⟩, i5.trans b9, hz9, by simp [Tr.get_set, f1], by simp [Tr.get_set], by simp [Tr.get_set, f3]⟩
      rw [e8, List.replicate_succ', ← List.append_assoc]
      exact hW9
end Go.Proofs.Ythpnhdopheofcaa
end
section
namespace Go.Proofs.Ythpnhdopheofcaa
open Go.Dx
variable {tbl : Nat → Option CFunc}
theorem leave_x (T : SkT tbl) {M : Mem} {sp : Pos} {P : Pos → Prop} {csl : List Fr} {fl : Fr} {G : Hp} {s h : List Vl} {v : Vl} {o : Ob} {bs : Nat} (hg : Good G 2 csl fl o) (hS : StackIs M sp P 2 (csl ++ [fl]) G) (hW : SX G (s ++ [v]) h) (ho : o.slots = s ++ [v]) (hb : fl.base = bs) (hh : bs + 1 ≤ s.length) :
    CallW tbl 28 (.cons (.ptr sp 0) .nil) M fun r M' => r = .ret (.tuple (.cons (.bool (decide (csl.length = 0))) (.cons (.int 3 0) .nil))) ∧ (∃ G', StackIs M' sp P 2 csl G' ∧ SX G' (s.take bs ++ [v]) h) ∧ But (fun p => ¬ P p) M M' ∧ ∀ hp, HpOf M sp hp → HpOf M' sp hp := by
  refine CallW.wf fun hw => ?_
  refine CallW.intro T.h28 rfl (fr := .nod (.val .leaf (.ptr sp 0) .leaf) .leaf) rfl ?_
  simp only [go_sem, cf28]
  refine (hg.state T hS).use ?_
  rintro r M1 hw1 ⟨rfl, b1⟩
  simp only [go_sem]
  refine (height_spec T hg (hS.quiet b1)).use ?_
  rintro r M2 hw2 ⟨rfl, b2⟩
  have hol := hg.len
  rw [ho, List.length_append] at hol
  have hol' : s.length + 1 ≤ 2 ^ 30 := hol
  have g1 : ((o.slots.length : Int) - fl.base - 1 == 0) = false := by
    rw [ho, hb, List.length_append]
    simp only [List.length_cons, List.length_nil, beq_eq_false_iff_ne, ne_eq]
    omega
  have hS2 := (hS.quiet b1).quiet b2
  have i4r := hS2.wide (But_reserve M2 _) (Nat.le_refl _) (by show M2.next.num < M2.next.succ.num; rw [Pos.num_succ]; omega)
  simp only [go_sem, g1]
  refine (n_spec T.h69 i4r).use ?_
  rintro r M3 hw3 ⟨rfl, rfl⟩
  obtain ⟨hp, cv, hz⟩ := hS2.cells
  have hzr : (⟨M2.next.succ, M2.get⟩ : Mem).get sp = spC hp 2 cv := hz
  have hz' := hz
  simp only [spC] at hz'
  simp only [go_sem, hz']
  refine (hpop_x T i4r hzr hW (by omega)).use ?_
  rintro r M4 hw4 ⟨rfl, ⟨G4, s4, w4⟩, b4, hz4⟩
  have hq : (M2.next.num < M4.next.num) = True := eq_true (by have := b4.next; have e : M2.next.succ.num ≤ M4.next.num := this; rw [Pos.num_succ] at e; omega)
  obtain ⟨vk, vn⟩ := v
  have ne2 := hw2.ne hz'
  generalize hqq : M2.next = q at *
  have bp : But (fun p => p = q) M4 ((M4.put q (.cells [.int 3 0, .int 3 0] false)).put q (.cells [.int 3 vk, .int 3 vn] false)) :=
    (But.put (S := fun p => p = q) (p := q) _ rfl _).trans (But.put (S := fun p => p = q) (p := q) _ rfl _)
  have s5 := s4.frame (bp.mono fun p hp => .inr hp)
  have x5 : ((M4.put q (.cells [.int 3 0, .int 3 0] false)).put q (.cells [.int 3 vk, .int 3 vn] false)).get q = some (.cells [.int 3 vk, .int 3 vn] false) := by simp [Mem.put]
  have hz5 : ((M4.put q (.cells [.int 3 0, .int 3 0] false)).put q (.cells [.int 3 vk, .int 3 vn] false)).get sp = spC hp 2 cv := by
    have e0 : ¬ (sp = q) := of_eq_false ne2
    simp only [Mem.put, if_neg e0]
    exact hz4
  have w5 : ((M4.put q (.cells [.int 3 0, .int 3 0] false)).put q (.cells [.int 3 vk, .int 3 vn] false)).wf := fun p c' hp' => by
    by_cases e : p = q
    · subst e; exact of_eq_true hq
    · simp only [Mem.put, if_neg e] at hp'; exact hw4 p c' hp'
  simp only [go_sem, VlA, hq]
  generalize hM5 : (M4.put q (.cells [.int 3 0, .int 3 0] false)).put q (.cells [.int 3 vk, .int 3 vn] false) = M5 at *
  obtain ⟨own, Z, rfl, rfl, rfl, hP, hB, hH⟩ := s5.open_ hz5
  obtain ⟨p, po, pn, a1, htop, c0, c1, c2, hown⟩ := Good.top T hB hg.calls
  refine htop.use ?_
  rintro r M6 hw6 ⟨rfl, rfl⟩
  rw [hb] at c0
  simp only [go_sem, Nat.add_zero, c0]
  refine (down_x T s5 w4 (by omega) (by omega)).use ?_
  rintro r M7 hw7 ⟨rfl, ⟨G7, s7, w7⟩, b7, hz7⟩
  rw [hz5] at hz7
  have x7 := b7.get _ _ (fun e => e (.inr rfl)) x5
  have hz7' := hz7
  simp only [spC] at hz7'
  obtain ⟨own2, Z2, e1, e2, e3, hP2, hB2, hH2⟩ := s7.open_ hz7
  have hlen := hB2.cal.len
  rw [frL_len, e3] at hlen
  simp only [List.length_append, List.length_cons, List.length_nil] at hlen
  have hcl := hg.calls
  obtain ⟨v8, p8, hc8, hB8⟩ := hB2.pop
  rw [e3] at p8
  have e8 : IntKind.i64.wrap (((csl.length + (0 + 1) : Nat) : Int) - 1) = ((csl.length : Nat) : Int) := by rw [wrap64 (by omega) (by omega)]; omega
  obtain ⟨r1, r2⟩ := StackIs.step (t := (0, 0)) (Z := Z2) hP2 (by rw [e2]; exact hH2) (OwnUp.refl _ _ _ _) (But.put (p := Z2.sp) _ (by rw [hB2.spo]; simp) _) hB8 rfl
  have r1' := r1
  rw [e1, e2] at r1' r2
  have hz8 : (M7.put Z.sp (.cells [.ptr Z.hp 0, .int 3 8, .int 3 2, v8] false)).get Z.sp = spC Z.hp 2 v8 := by simp [Mem.put, spC]
  have nspq : (q = Z.sp) = False := eq_false fun e => by have h1 := hB.spo; rw [← e, (hP q (.inr rfl)).1] at h1; cases h1
  have nspq' : (Z.sp = q) = False := eq_false fun e => of_eq_false nspq e.symm
  have x8 : (M7.put Z.sp (.cells [.ptr Z.hp 0, .int 3 8, .int 3 2, v8] false)).get q = some (.cells [.int 3 vk, .int 3 vn] false) := by simp only [Mem.put, if_neg (of_eq_false nspq)]; exact x7
  simp only [go_sem, hz7', hlen, e8, p8, hc8]
  refine (n_spec T.h69 r1').use ?_
  rintro r M9 hw9 ⟨rfl, rfl⟩
  simp only [go_sem, x7, nspq]
  have hl2 : (s.take bs).length ≤ 2 ^ 30 := by rw [List.length_take]; omega
  refine (hpush_x T (v := ⟨vk, vn⟩) r1' hz8 w7 hl2).use ?_
  rintro r M10 hw10 ⟨rfl, ⟨G10, s10, w10⟩, b10, hz10⟩
  have hz10' := hz10
  simp only [spC] at hz10'
  have hl8 : slLen v8 = some csl.length := by have := hB8.cal.len; rw [frL_len] at this; exact this
  simp only [go_sem, hz10', hl8]
  have hbool : ((csl.length : Int) == 0) = decide (csl.length = 0) := by cases csl <;> simp; omega
  rw [hbool]
  have hlo : ∀ p, P p → p.num < q.num := fun p hp => by obtain ⟨_, _, _, h2, _⟩ := hS2; rw [← hqq]; exact (h2 p hp).2
  have bR : But (fun _ => False) M2 ⟨q.succ, M2.get⟩ := by rw [← hqq]; exact But_reserve M2 _
  have t1 : But (fun p => ¬ P p) M M4 := (((b1.trans b2).trans bR).any _).trans (b4.mono fun p hn hp => hn (.inl hp))
  have t2 := t1.trans (bp.mono fun p e hp => by subst e; have := hlo _ hp; omega)
  exact ⟨rfl, ⟨G10, s10.less fun p hp => .inl hp, w10⟩, t2.trans (((b7.trans r2).trans b10).mono fun p hn hp => hn (.inl hp)), fun hp0 h0 => by
    have e := h0.same (b1.trans b2) hz'
    subst e
    exact ⟨_, _, hz10⟩⟩
end Go.Proofs.Ythpnhdopheofcaa
end
section
namespace Go.Proofs.Ythpnhdopheofcaa
open Go.Dx
variable {tbl : Nat → Option CFunc}
theorem state_end (T : SkT tbl) {M : Mem} {sp : Pos} {P : Pos → Prop} {co : Int} {G : Hp} (hS : StackIs M sp P co [] G) :
    CallW tbl 67 (.cons (.ptr sp 0) .nil) M fun r M' => r = .ret (.int 3 5) ∧ But (fun _ => False) M M' := by
  obtain ⟨own, Z, rfl, hP, hB, hH⟩ := hS
  refine CallW.intro T.h67 rfl (fr := .nod (.val .leaf (.ptr Z.sp 0) .leaf) .leaf) rfl ?_
  have hlen := hB.cal.len
  rw [frL_len] at hlen
  simp only [List.length_nil] at hlen
  have g1 : (((0 : Nat) : Int) == 0) = true := rfl
  simp only [go_sem, cf67, hB.spc, hlen, g1]
  first | exact But.refl _ _ | exact ⟨rfl, But.refl _ _⟩
theorem throw_out (T : SkT tbl) {M : Mem} {sp : Pos} {P : Pos → Prop} {post : List Fr} {G : Hp} {s h : List Vl} {v : Vl} {csl : List Fr} {fl : Fr} {o : Ob} (hgl : post = csl ++ [fl]) (hg : Good G 2 csl fl o)
    (hS : StackIs M sp P 2 post G) (hW : SX G s (v :: h)) (hpost : ∀ g ∈ post, g.tries = []) :
    CallW tbl 20 (.cons (.ptr sp 0) (.cons (VlA v) .nil)) M fun r M' => r = .ret (.tuple (.cons (.bool false) (.cons (.int 3 0) .nil))) ∧ (∃ G', StackIs M' sp P 2 [] G' ∧ SX G' [v] h) ∧ But (fun p => ¬ P p) M M' ∧ ∀ hp, HpOf M sp hp → HpOf M' sp hp := by
  refine CallW.wf fun hw => ?_
  obtain ⟨vk, vn⟩ := v
  refine CallW.intro T.h20 rfl (fr := .nod (.val .leaf (.ptr sp 0) .leaf) (.val .leaf (VlA ⟨vk, vn⟩) .leaf)) rfl ?_
  simp only [go_sem, cf20, VlA]
  have b0 := But.new (S := fun _ => False) hw (.cells [.int 3 vk, .int 3 vn] false)
  have hS0 := hS.more hw (.cells [.int 3 vk, .int 3 vn] false)
  rw [hgl] at hS0
  refine (hg.state T hS0).use ?_
  rintro r M1 hw1 ⟨rfl, b1⟩
  have hS1 := hS0.quiet b1
  have x1 : M1.get M.next = some (.cells [.int 3 vk, .int 3 vn] false) := b1.get _ _ id (by simp only [go_sem])
  generalize hbx : M.next = b at *
  simp only [go_sem]
  obtain ⟨hp, cv, hz⟩ := hS1.cells
  have hz' := hz
  simp only [spC] at hz'
  have hco := hg.len
  simp only [go_sem, hz']
  refine (n_spec T.h69 hS1).use ?_
  rintro r M2 hw2 ⟨rfl, rfl⟩
  simp only [go_sem, x1]
  have hl : s.length ≤ 2 ^ 30 := by
    have := hW.len; omega
  refine (hpush_x T (v := ⟨vk, vn⟩) hS1 hz hW hl).use ?_
  rintro r M3 hw3 ⟨rfl, ⟨G3, hS3, hW3⟩, b3, hz3⟩
  have x3 := b3.get _ _ (fun e => e (.inr rfl)) x1
  have hz3' := hz3
  simp only [spC] at hz3'
  simp only [go_sem]
  refine (n_spec T.h69 hS3).use ?_
  rintro r M4 hw4 ⟨rfl, rfl⟩
  simp only [go_sem, hz3']
  refine (hpop_x T hS3 hz3 hW3 hl).use ?_
  rintro r M5 hw5 ⟨rfl, ⟨G5, hS5, hW5⟩, b5, hz5⟩
  have x5 := b5.get _ _ (fun e => e (.inr rfl)) x3
  simp only [go_sem]
  rw [← hgl] at hS5
  have hb5 := b3.trans b5
  have hgc : csl.length < 2 ^ 30 := hg.calls
  have hle : post.length = csl.length + 1 := by rw [hgl]; simp
  refine loop_wp (I := fun n fr M' => M'.wf ∧ n ≤ post.length ∧ (∃ G', StackIs M' sp (fun p => P p ∨ p = b) 2 (post.take n) G' ∧ SX G' s (⟨vk, vn⟩ :: h)) ∧ But (fun p => ¬ (P p ∨ p = b)) M5 M' ∧ (∃ cv', M'.get sp = spC hp 2 cv') ∧
    fr.get (.o .h) = some (.ptr sp 0) ∧ fr.get (.i (.o .h)) = some (.ptr b 0) ∧ fr.get (.i (.o (.o .h))) = some (.func (.func 68) (.cons (.ptr hp 0) .nil) .nil)) (n := post.length) ?_ ?_
  · exact ⟨hw5, Nat.le_refl _, ⟨G5, by rw [List.take_length]; exact hS5, hW5⟩, But.refl _ _, ⟨_, hz5⟩, rfl, rfl, rfl⟩
  · rintro n fr M' ⟨i1, i2, ⟨G6, i3, i4⟩, i5, ⟨cv6, hz6⟩, f1, f2, f3⟩
    have x6 := i5.get _ _ (fun e => e (.inr rfl)) x5
    obtain ⟨own, Z, rfl, rfl, rfl, hP, hB, hH⟩ := i3.open_ hz6
    have hz6' := hz6
    simp only [spC] at hz6'
    have hlen := hB.cal.len
    rw [frL_len] at hlen
    simp only [List.length_take, Nat.min_eq_left i2] at hlen
    cases n with
    | zero =>
      simp only [List.take_zero] at hB i3
      have g1 : decide ((0 : Int) < ((0 : Nat) : Int)) = false := rfl
      simp only [go_sem, f1, hz6', hlen, g1]
      refine (down_x T (m := 0) i3 i4 hl (by omega)).use ?_
      rintro r M11 hw11 ⟨rfl, ⟨G11, hS11, hW11⟩, b11, hz11⟩
      rw [hz6] at hz11
      have x11 := b11.get _ _ (fun e => e (.inr rfl)) x6
      simp only [go_sem, f1]
      refine (n_spec T.h69 hS11).use ?_
      rintro r M12 hw12 ⟨rfl, rfl⟩
      simp only [go_sem, f1, f2, f3, x11]
      rw [List.take_zero] at hW11
      refine (hpush_x T (v := ⟨vk, vn⟩) hS11 hz11 hW11 (by simp)).use ?_
      rintro r M13 hw13 ⟨rfl, ⟨G13, hS13, hW13⟩, b13, hz13⟩
      simp only [go_sem]
      exact ⟨⟨G13, hS13.less fun p hp => .inl hp, hW13⟩, ((b0.trans b1).any _).trans (((hb5.trans i5).trans (b11.trans b13)).mono fun p hn hp => hn (.inl hp)), fun hp0 h0 => by
        have e := h0.same (b0.trans b1) hz'
        subst e
        exact ⟨_, _, hz13⟩⟩
    | succ k =>
      have hk : k < post.length := by omega
      have e7 : post.take (k + 1) = post.take k ++ [post[k]] := List.take_succ_eq_append_getElem hk
      rw [e7] at hB i3
      have l7 : (post.take k).length = k := by rw [List.length_take]; omega
      have g1 : decide (0 < ((k + 1 : Nat) : Int)) = true := by simp only [decide_eq_true_eq]; omega
      simp only [go_sem, f1, hz6', hlen, g1]
      obtain ⟨p, po, pn, a1, htop, c0, c1, c2, hown⟩ := Good.top T hB (by omega)
      refine htop.use ?_
      rintro r M7 hw7 ⟨rfl, rfl⟩
      have htr := hB.tries
      rw [hpost _ (List.getElem_mem hk)] at htr
      have tlen := htr.len
      simp only [PairL, List.map_nil, List.length_nil] at tlen
      have g2 : decide ((0 : Int) < ((0 : Nat) : Int)) = false := rfl
      obtain ⟨v8, p8, hc8, hB8⟩ := hB.pop
      rw [l7] at p8
      have e8 : IntKind.i64.wrap (((k + 1 : Nat) : Int) - 1) = ((k : Nat) : Int) := by rw [wrap64 (by omega) (by omega)]; omega
      simp only [go_sem, c2, tlen, g2, f1, hz6', hlen, e8, p8, hc8]
      obtain ⟨r1, r2⟩ := StackIs.step (M' := M7.put Z.sp (.cells [.ptr Z.hp 0, .int 3 8, .int 3 2, v8] false)) (t := (0, 0)) hP hH (OwnUp.refl _ _ _ _) (But.put (p := Z.sp) _ (by rw [hB.spo]; simp) _) hB8 rfl
      exact ⟨k, by omega, hw7.put hz6' _, by omega, ⟨G6, r1, i4⟩, i5.trans r2, ⟨v8, by simp [Mem.put, spC]⟩, by simp [Tr.get_set, f1], by simp [Tr.get_set, f2], by simp [Tr.get_set, f3]⟩
end Go.Proofs.Ythpnhdopheofcaa
end
section
namespace Go.Proofs.Ythpnhdopheofcaa
open Go.Dx
variable {tbl : Nat → Option CFunc}
theorem vl_at {M : Mem} {a : AV} {l : List Vl} (h : SlIs M a 2 (VlL l)) {i : Nat} (hi : i < l.length) : ∃ p o, slAt a = some (p, o, l.length) ∧ MB.cellsAt (M.get p) (o + i * 2) 2 = some [.int 3 l[i].k, .int 3 l[i].n] := by
  obtain ⟨p, o, h1, h2⟩ := h.at_ (i := i) (by rw [vlL_len]; exact hi)
  rw [vlL_len] at h1
  refine ⟨p, o, h1, ?_⟩
  rw [h2]
  simp [VlL, VlR, hi]
theorem put_same {M : Mem} {p : Pos} {b : MB} (h : M.get p = some b) : M.put p b = M := by
  have : (fun q => if q = p then some b else M.get q) = M.get := by
    funext q
    split
    · rename_i e; rw [e, h]
    · rfl
  unfold Mem.put
  rw [this]
def swapG (G : Hp) (n : Int) (i : Nat) (v : Vl) : Hp := { G with objs := upd G.objs n ((G.objs n).map fun o => { o with slots := o.slots.set i v }) }
theorem hswap (T : SkT tbl) (h79 : tbl 79 = some cf79) {M : Mem} {hp : Pos} {P : Pos → Prop} {G : Hp} {n : Int} {i : Nat} {v : Vl} {o : Ob} (hH : HeapIs M hp P G) (ho : G.objs n = some o) (hi : i < o.slots.length) (ht : thereV G v = true) :
    CallW tbl 79 (.cons (.ptr hp 0) (.cons (.int 3 n) (.cons (.int 3 (i : Int)) (.cons (VlA v) .nil)))) M fun r M' => r = .ret (.tuple (.cons (VlA o.slots[i]) (.cons (.int 3 0) .nil))) ∧ HeapIs M' hp P (swapG G n i v) ∧ But (fun p => ¬ P p) M M' := by
  refine CallW.wf fun hw => ?_
  obtain ⟨vk, vn⟩ := v
  have hH0 := hH
  obtain ⟨own, Y, rfl, hP, hB0⟩ := hH0
  refine CallW.intro h79 rfl (fr := .nod (.val (.val .leaf (.int 3 (i : Int)) .leaf) (.ptr Y.hp 0) .leaf) (.val (.val .leaf (VlA ⟨vk, vn⟩) .leaf) (.int 3 n) .leaf)) rfl ?_
  have b1 := But.new (S := fun _ => False) hw (.cells [.int 3 vk, .int 3 vn] false)
  have w1 := hw.new (.cells [.int 3 vk, .int 3 vn] false)
  have b2 := But.new (S := fun _ => False) w1 (.cells [.int 3 0, .int 3 0] false)
  have w2 := w1.new (.cells [.int 3 0, .int 3 0] false)
  have x1 : (M.new (.cells [.int 3 vk, .int 3 vn] false)).get M.next = some (.cells [.int 3 vk, .int 3 vn] false) := by simp only [go_sem]
  have y1 := b2.get _ _ id x1
  have x2 : ((M.new (.cells [.int 3 vk, .int 3 vn] false)).new (.cells [.int 3 0, .int 3 0] false)).get M.next.succ = some (.cells [.int 3 0, .int 3 0] false) := by simp only [go_sem]
  simp only [go_sem, cf79, VlA]
  generalize hM2 : (M.new (.cells [.int 3 vk, .int 3 vn] false)).new (.cells [.int 3 0, .int 3 0] false) = M2 at *
  have b12 := b1.trans b2
  refine (at_some T.h80 T.h75 (hH.quiet b12) ho hi).use ?_
  rintro r M3 hw3 ⟨rfl, b3⟩
  generalize hov : o.slots[i] = ov
  obtain ⟨ok_, on_⟩ := ov
  have b4 := But.fill hw3 (.cells [.int 3 0, .int 3 0] false) (.cells [.int 3 ok_, .int 3 on_] false)
  have w4 := hw3.fill (.cells [.int 3 0, .int 3 0] false) (.cells [.int 3 ok_, .int 3 on_] false)
  have x4 : ((M3.new (.cells [.int 3 0, .int 3 0] false)).put M3.next (.cells [.int 3 ok_, .int 3 on_] false)).get M3.next = some (.cells [.int 3 ok_, .int 3 on_] false) := by simp [Mem.put]
  have b34 := b3.trans b4
  have y4 := b34.get _ _ id y1
  have z4 := b34.get _ _ id x2
  have y3 := b3.get _ _ id y1
  have ne4 := hw3.ne y3
  simp only [go_sem, VlA, ne4, y3]
  generalize hM4 : (M3.new (.cells [.int 3 0, .int 3 0] false)).put M3.next (.cells [.int 3 ok_, .int 3 on_] false) = M4 at *
  have b14 := b12.trans b34
  have hB := hB0.quiet b14
  refine (there_spec T.h115 T.h77 T.h117 T.h143 (v := ⟨vk, vn⟩) hB).use ?_
  rintro r M5 hw5 ⟨rfl, b5⟩
  have hB5 := hB.quiet b5
  have y5 := b5.get _ _ id y4
  have z5 := b5.get _ _ id z4
  have x5 := b5.get _ _ id x4
  have hcc := hB5.hpc
  simp only [hpC] at hcc
  obtain ⟨es, c, m1, m2⟩ := hB5.mpc
  have hf := m2.find (.int 3 n) ⟨n, rfl⟩
  simp only [objF, ho, Option.map_some] at hf
  obtain ⟨o1, o2, o3⟩ := hB5.obj n o ho
  simp only [ObR] at o2
  have hlen := o3.len
  rw [vlL_len] at hlen
  obtain ⟨q, qo, a1, a2⟩ := vl_at o3.rows hi
  have ok1 : okKey (.leaf .int) (.int 3 n) = true := by simp [okKey, eqKey, eqLeaf]
  obtain ⟨b, st, hq, ⟨b0, hb0⟩, s4⟩ := o3.set_ (i := i) (by rw [vlL_len]; exact hi) (x := [.int 3 vk, .int 3 vn]) rfl rfl a1
  rw [Mem.store_eq] at st
  simp only [go_sem, ht, hcc, m1, hf, ok1, o2, a1, hi, y5, st]
  have hrow : (VlL o.slots).set i [.int 3 vk, .int 3 vn] = VlL (o.slots.set i ⟨vk, vn⟩) := by simp [VlL, VlR, List.map_set]
  rw [hrow] at s4
  have nqo : Y.ob n ≠ q := fun e => by rw [e, hq] at o1; cases o1
  have hset0 := hB5.setObj (n := n) (x := { o with slots := o.slots.set i ⟨vk, vn⟩ }) (OwnUp.refl _ _ _ _) (But.put (S := fun p => own p = some (5, n)) (p := q) M5 hq b) ho s4
  have hobn : (M5.put q b).get (Y.ob n) = some (.cells (ObR { o with slots := o.slots.set i ⟨vk, vn⟩ } (Y.sv n)) false) := by
    show (if Y.ob n = q then _ else M5.get (Y.ob n)) = _
    rw [if_neg nqo]
    exact o2
  rw [put_same hobn] at hset0
  have e : upd Y.sv n (Y.sv n) = Y.sv := by funext m; unfold upd; split <;> simp_all
  rw [e] at hset0
  have hsG : swapG G n i ⟨vk, vn⟩ = { G with objs := upd G.objs n (some { o with slots := o.slots.set i ⟨vk, vn⟩ }) } := by simp only [swapG, ho, Option.map_some]
  rw [hsG]
  refine (touch_spec T.h81 T.h85 hset0).use ?_
  rintro r M6 hw6 ⟨rfl, b6⟩
  have fresh : ∀ p : Pos, M.next.num ≤ p.num → p ≠ q := fun p hp e => by
    have := hB0.inn q (by rw [hq]; simp)
    rw [e] at hp
    omega
  have bq : But (fun p => p = q) M5 (M5.put q b) := But.put (S := fun p => p = q) (p := q) _ rfl _
  have hn3 := (b12.trans b3).next
  have x6 := b6.get _ _ id (bq.get _ _ (fresh _ hn3) x5)
  have z6 := b6.get _ _ id (bq.get _ _ (fresh _ (by rw [Pos.num_succ]; omega)) z5)
  simp only [go_sem, x6, z6]
  have hset6 := hset0.quiet b6
  have bz : But (fun p => p = M.next.succ) M6 (M6.put M.next.succ (.cells [.int 3 ok_, .int 3 on_] false)) := But.put (S := fun p => p = M.next.succ) (p := M.next.succ) _ rfl _
  have hfr : ∀ p : Pos, M.next.num ≤ p.num → own p = none := fun p hp => by
    cases h : own p with
    | none => rfl
    | some t => have := hB0.inn p (by rw [h]; simp); omega
  have nsu : M.next.succ.num = M.next.num + 1 := Pos.num_succ _
  have hset7 := hset6.keep (bz.mono fun p e => by rw [e]; exact hfr _ (by omega))
  have bb : But (fun p => ¬ P p) M (M6.put M.next.succ (.cells [.int 3 ok_, .int 3 on_] false)) := by
    have t1 : But (fun p => ¬ P p) M M6 := (((b14.trans b5).any _).trans (bq.mono fun p e => by rw [e]; exact HeapIs.not hP hq)).trans (b6.any _)
    exact t1.trans (bz.mono fun p e hp => by have := (hP p hp).2; rw [e] at this; omega)
  first | exact ⟨⟨own, Y, rfl, fun p hp => ⟨(hP p hp).1, Nat.lt_of_lt_of_le (hP p hp).2 bb.next⟩, hset7⟩, bb⟩ | exact ⟨rfl, ⟨own, Y, rfl, fun p hp => ⟨(hP p hp).1, Nat.lt_of_lt_of_le (hP p hp).2 bb.next⟩, hset7⟩, bb⟩
theorem occ_set (x : Vl) : ∀ (s : List Vl) (i : Nat) (v : Vl) (hi : i < s.length), occ x (s.set i v) + occ x [s[i]] = occ x s + occ x [v] := by
  intro s
  induction s with
  | nil => intro i v hi; exact absurd hi (Nat.not_lt_zero _)
  | cons w s ih =>
    intro i v hi
    cases i with
    | zero => simp only [List.set_cons_zero, List.getElem_cons_zero, occ]; omega
    | succ i =>
      have := ih i v (by simpa using hi)
      simp only [List.set_cons_succ, List.getElem_cons_succ, occ] at this ⊢
      omega
theorem SX.swap {G : Hp} {s h : List Vl} {v : Vl} {i : Nat} (hX : SX G s (v :: h)) (hi : i < s.length) : SX (swapG G 2 i v) (s.set i v) (s[i] :: h) := by
  have e : ∀ x, occ x (s.set i v ++ s[i] :: h) = occ x (s ++ v :: h) := fun x => by
    have := occ_set x s i v hi
    rw [occ_app, occ_app]
    simp only [occ] at this ⊢
    omega
  refine ⟨?_, ?_, ?_, fun n a b c => ?_, hX.tk, hX.buf, fun w hw => ?_, ?_⟩
  · rw [e]; simpa [swapG, upd] using hX.o1
  · simp [swapG, upd, hX.o2]
  · rw [e]; simpa [swapG, upd] using hX.o3
  · simpa [swapG, upd, b] using hX.no n a b c
  · simp only [List.mem_append, List.mem_cons] at hw
    rcases hw with hw | rfl | hw
    · rcases List.mem_or_eq_of_mem_set hw with hw | rfl
      · exact hX.ok w (List.mem_append_left _ hw)
      · exact hX.ok _ (by simp)
    · exact hX.ok _ (List.mem_append_left _ (List.getElem_mem hi))
    · exact hX.ok w (by simp [hw])
  · have := hX.len; simp only [List.length_set, List.length_cons] at this ⊢; exact this
theorem spop_x (T : SkT tbl) (h33 : tbl 33 = some cf33) {M : Mem} {sp : Pos} {P : Pos → Prop} {cs : List Fr} {f : Fr} {G : Hp} {s h : List Vl} {v : Vl} (hS : StackIs M sp P 2 (cs ++ [f]) G) (hW : SX G (s ++ [v]) h) (h0 : 0 ≤ f.base) (hb : f.base + 1 ≤ s.length) (hc : cs.length < 2 ^ 30) :
    CallW tbl 33 (.cons (.ptr sp 0) .nil) M fun r M' => r = .ret (.tuple (.cons (VlA v) (.cons (.int 3 0) .nil))) ∧ (∃ G', StackIs M' sp P 2 (cs ++ [f]) G' ∧ SX G' s (v :: h)) ∧ But (fun p => ¬ P p) M M' ∧ ∀ hp, HpOf M sp hp → HpOf M' sp hp := by
  refine CallW.wf fun hw => ?_
  have hg := hW.good (cs := cs) (f := f) h0 (by rw [List.length_append]; simp only [List.length_cons, List.length_nil]; omega) hc
  refine CallW.intro h33 rfl (fr := .nod (.val .leaf (.ptr sp 0) .leaf) .leaf) rfl ?_
  simp only [go_sem, cf33]
  have b0 := But.new (S := fun _ => False) hw (.cells [.int 3 0, .int 3 0] false)
  have hS0 := hS.more hw (.cells [.int 3 0, .int 3 0] false)
  refine (hg.state T hS0).use ?_
  rintro r M1 hw1 ⟨rfl, b1⟩
  have hS1 := hS0.quiet b1
  have x1 : M1.get M.next = some (.cells [.int 3 0, .int 3 0] false) := b1.get _ _ id (by simp only [go_sem])
  generalize hbx : M.next = b at *
  simp only [go_sem]
  refine (height_spec T hg hS1).use ?_
  rintro r M2 hw2 ⟨rfl, b2⟩
  have hS2 := hS1.quiet b2
  have x2 := b2.get _ _ id x1
  have g1 : ((((s ++ [v]).length : Nat) : Int) - f.base - 1 == 0) = false := by
    rw [List.length_append]; simp only [List.length_cons, List.length_nil, beq_eq_false_iff_ne, ne_eq]; omega
  obtain ⟨hp, cv, hz⟩ := hS2.cells
  have hz' := hz
  simp only [spC] at hz'
  simp only [go_sem, g1]
  refine (n_spec T.h69 hS2).use ?_
  rintro r M3 hw3 ⟨rfl, rfl⟩
  simp only [go_sem, hz']
  have hl := hW.len
  rw [List.length_append] at hl
  simp only [List.length_cons, List.length_nil] at hl
  refine (hpop_x T hS2 hz hW (by omega)).use ?_
  rintro r M4 hw4 ⟨rfl, ⟨G4, hS4, hW4⟩, b4, hz4⟩
  have x4 := b4.get _ _ (fun e => e (.inr rfl)) x2
  obtain ⟨vk, vn⟩ := v
  have bp : But (fun p => p = b) M4 (M4.put b (.cells [.int 3 vk, .int 3 vn] false)) := But.put (S := fun p => p = b) (p := b) _ rfl _
  have hS5 := hS4.frame (bp.mono fun p hp => .inr hp)
  have hlo : ∀ p, P p → p.num < b.num := fun p hp => by obtain ⟨_, _, _, h2, _⟩ := hS; rw [← hbx]; exact (h2 p hp).2
  have ne : ¬ (sp = b) := fun e => by subst e; rw [hz] at x2; simp [spC] at x2
  simp only [go_sem, VlA, x4]
  exact ⟨⟨G4, hS5.less fun p hp => .inl hp, hW4⟩, (((b0.trans b1).trans b2).any _).trans ((b4.mono fun p hn hp => hn (.inl hp)).trans (bp.mono fun p e hp => by subst e; have := hlo _ hp; omega)), fun hp0 h0 => by
    have e := h0.same ((b0.trans b1).trans b2) hz'
    subst e
    exact ⟨_, _, by simp only [Mem.put, if_neg ne]; exact hz4⟩⟩
theorem spop_none (T : SkT tbl) (h33 : tbl 33 = some cf33) {M : Mem} {sp : Pos} {P : Pos → Prop} {cs : List Fr} {f : Fr} {G : Hp} {s h : List Vl} (hS : StackIs M sp P 2 (cs ++ [f]) G) (hW : SX G s h) (h0 : 0 ≤ f.base) (hb : f.base + 1 = s.length) (hc : cs.length < 2 ^ 30) :
    CallW tbl 33 (.cons (.ptr sp 0) .nil) M fun r M' => r = .ret (.tuple (.cons (VlA ⟨0, 0⟩) (.cons (.int 3 5) .nil))) ∧ But (fun _ => False) M M' := by
  refine CallW.wf fun hw => ?_
  have hg := hW.good (cs := cs) (f := f) h0 (by omega) hc
  refine CallW.intro h33 rfl (fr := .nod (.val .leaf (.ptr sp 0) .leaf) .leaf) rfl ?_
  simp only [go_sem, cf33]
  have b0 := But.new (S := fun _ => False) hw (.cells [.int 3 0, .int 3 0] false)
  have hS0 := hS.quiet b0
  refine (hg.state T hS0).use ?_
  rintro r M1 hw1 ⟨rfl, b1⟩
  have hS1 := hS0.quiet b1
  have x1 : M1.get M.next = some (.cells [.int 3 0, .int 3 0] false) := b1.get _ _ id (by simp only [go_sem])
  simp only [go_sem]
  refine (height_spec T hg hS1).use ?_
  rintro r M2 hw2 ⟨rfl, b2⟩
  have x2 := b2.get _ _ id x1
  have g1 : (((s.length : Nat) : Int) - f.base - 1 == 0) = true := by rw [beq_iff_eq]; omega
  simp only [go_sem, g1, x2]
  exact ⟨rfl, But.fresh hw ((((b0.trans b1).trans b2).any _).trans (But.put (p := M.next) _ (.inr (Nat.le_refl _)) _))⟩
theorem spop_end (T : SkT tbl) (h33 : tbl 33 = some cf33) {M : Mem} {sp : Pos} {P : Pos → Prop} {co : Int} {G : Hp} (hS : StackIs M sp P co [] G) :
    CallW tbl 33 (.cons (.ptr sp 0) .nil) M fun r M' => r = .ret (.tuple (.cons (VlA ⟨0, 0⟩) (.cons (.int 3 5) .nil))) ∧ But (fun _ => False) M M' := by
  refine CallW.wf fun hw => ?_
  refine CallW.intro h33 rfl (fr := .nod (.val .leaf (.ptr sp 0) .leaf) .leaf) rfl ?_
  simp only [go_sem, cf33]
  have b0 := But.new (S := fun _ => False) hw (.cells [.int 3 0, .int 3 0] false)
  refine (state_end T (hS.quiet b0)).use ?_
  rintro r M1 hw1 ⟨rfl, b1⟩
  have x1 : M1.get M.next = some (.cells [.int 3 0, .int 3 0] false) := b1.get _ _ id (by simp only [go_sem])
  simp only [go_sem, x1]
  exact ⟨rfl, But.fresh hw (((b0.trans b1).any _).trans (But.put (p := M.next) _ (.inr (Nat.le_refl _)) _))⟩
end Go.Proofs.Ythpnhdopheofcaa
end
section
namespace Go.Proofs.Ythpnhdopheofcaa
open Go.Dx
variable {tbl : Nat → Option CFunc}
theorem hswap_x (T : SkT tbl) (h79 : tbl 79 = some cf79) {M : Mem} {sp hp : Pos} {cv : AV} {P : Pos → Prop} {calls : List Fr} {G : Hp} {s h : List Vl} {v : Vl} {i : Nat} (hS : StackIs M sp P 2 calls G) (hz : M.get sp = spC hp 2 cv) (hW : SX G s (v :: h)) (hi : i < s.length) :
    CallW tbl 79 (.cons (.ptr hp 0) (.cons (.int 3 2) (.cons (.int 3 (i : Int)) (.cons (VlA v) .nil)))) M fun r M' => r = .ret (.tuple (.cons (VlA s[i]) (.cons (.int 3 0) .nil))) ∧ (∃ G', StackIs M' sp P 2 calls G' ∧ SX G' (s.set i v) (s[i] :: h)) ∧ But (fun p => ¬ P p) M M' ∧ M'.get sp = spC hp 2 cv := by
  obtain ⟨own, Z, rfl, rfl, rfl, hP, hB, hH⟩ := hS.open_ hz
  refine (hswap T h79 hH hW.o2 hi (hW.there (hW.ok v (by simp)))).mono ?_
  rintro r M' ⟨rfl, hH', b⟩
  obtain ⟨s1, s2⟩ := StackIs.heap hP hB hH' b
  exact ⟨rfl, ⟨_, s1, hW.swap hi⟩, s2, b.get _ _ (fun e => e (.inr (by rw [hB.spo]; simp))) hz⟩
theorem hdrop_x (T : SkT tbl) {M : Mem} {sp hp : Pos} {cv : AV} {P : Pos → Prop} {calls : List Fr} {G : Hp} {s h : List Vl} {v : Vl} (hS : StackIs M sp P 2 calls G) (hz : M.get sp = spC hp 2 cv) (hW : SX G s (v :: h)) :
    CallW tbl 38 (.cons (.ptr hp 0) (.cons (VlA v) .nil)) M fun r M' => r = .ret (.int 3 0) ∧ (∃ G', StackIs M' sp P 2 calls G' ∧ SX G' s h) ∧ But (fun p => ¬ P p) M M' ∧ M'.get sp = spC hp 2 cv := by
  obtain ⟨own, Z, rfl, rfl, rfl, hP, hB, hH⟩ := hS.open_ hz
  refine (drop_x T hH hW).mono ?_
  rintro r M' ⟨rfl, ⟨G', hH', hW'⟩, b⟩
  obtain ⟨s1, s2⟩ := StackIs.heap hP hB hH' b
  exact ⟨rfl, ⟨_, s1, hW'⟩, s2, b.get _ _ (fun e => e (.inr (by rw [hB.spo]; simp))) hz⟩
theorem hkeep_x (T : SkT tbl) {M : Mem} {sp hp : Pos} {cv : AV} {P : Pos → Prop} {calls : List Fr} {G : Hp} {s h : List Vl} {v : Vl} (hS : StackIs M sp P 2 calls G) (hz : M.get sp = spC hp 2 cv) (hW : SX G s h) (hv : v = fV ∨ v = tV) (hl : s.length + h.length + 1 ≤ 2 ^ 30) :
    CallW tbl 18 (.cons (.ptr hp 0) (.cons (VlA v) .nil)) M fun r M' => r = .ret (.int 3 0) ∧ (∃ G', StackIs M' sp P 2 calls G' ∧ SX G' s (v :: h)) ∧ But (fun p => ¬ P p) M M' ∧ M'.get sp = spC hp 2 cv := by
  obtain ⟨own, Z, rfl, rfl, rfl, hP, hB, hH⟩ := hS.open_ hz
  refine (keep_x T hH hW hv hl).mono ?_
  rintro r M' ⟨rfl, ⟨G', hH', hW'⟩, b⟩
  obtain ⟨s1, s2⟩ := StackIs.heap hP hB hH' b
  exact ⟨rfl, ⟨_, s1, hW'⟩, s2, b.get _ _ (fun e => e (.inr (by rw [hB.spo]; simp))) hz⟩
theorem spush_x (T : SkT tbl) {M : Mem} {sp : Pos} {P : Pos → Prop} {cs : List Fr} {f : Fr} {G : Hp} {s h : List Vl} {v : Vl} (hS : StackIs M sp P 2 (cs ++ [f]) G) (hW : SX G s (v :: h)) (h0 : 0 ≤ f.base) (hb : f.base + 1 ≤ s.length) (hcs : cs.length < 2 ^ 30) :
    CallW tbl 15 (.cons (.ptr sp 0) (.cons (VlA v) .nil)) M fun r M' => ((r = .ret (.int 3 0) ∧ ∃ G', StackIs M' sp P 2 (cs ++ [f]) G' ∧ SX G' (s ++ [v]) h) ∨ (r = .ret (.int 3 3) ∧ ∃ G', StackIs M' sp P 2 (cs ++ [f]) G' ∧ SX G' s (v :: h))) ∧ But (fun p => ¬ P p) M M' ∧ ∀ hp, HpOf M sp hp → HpOf M' sp hp := by
  have hg := hW.good (cs := cs) (f := f) h0 hb hcs
  by_cases hh : (s.length : Int) - f.base - 1 < 250
  · refine (spush_ok T hg hS hh (hW.there (hW.ok v (by simp)))).mono ?_
    rintro r M' ⟨rfl, s1, b, b'⟩
    exact ⟨.inl ⟨rfl, _, s1, hW.push⟩, b, b'⟩
  · refine CallW.wf fun hw => ?_
    obtain ⟨vk, vn⟩ := v
    refine CallW.intro T.h15 rfl (fr := .nod (.val .leaf (.ptr sp 0) .leaf) (.val .leaf (VlA ⟨vk, vn⟩) .leaf)) rfl ?_
    simp only [go_sem, cf15, VlA]
    have b0 := But.new (S := fun _ => False) hw (.cells [.int 3 vk, .int 3 vn] false)
    refine (hg.state T (hS.quiet b0)).use ?_
    rintro r M1 hw1 ⟨rfl, b1⟩
    simp only [go_sem]
    refine (height_spec T hg (hS.quiet (b0.trans b1))).use ?_
    rintro r M2 hw2 ⟨rfl, b2⟩
    have g : decide (250 ≤ (s.length : Int) - f.base - 1) = true := by simp only [decide_eq_true_eq]; omega
    simp only [go_sem, g]
    have bb := (b0.trans b1).trans b2
    have hh' : ∀ hp, HpOf M sp hp → HpOf M2 sp hp := fun hp h0 => by obtain ⟨co, cv, hx⟩ := h0; exact ⟨co, cv, bb.get _ _ id hx⟩
    first | exact ⟨.inr ⟨rfl, G, hS.quiet bb, hW⟩, bb.any _, hh'⟩ | exact ⟨.inr ⟨G, hS.quiet bb, hW⟩, bb.any _, hh'⟩ | exact ⟨⟨G, hS.quiet bb, hW⟩, bb.any _, hh'⟩
theorem spush_end (T : SkT tbl) {M : Mem} {sp : Pos} {P : Pos → Prop} {co : Int} {G : Hp} {v : Vl} (hS : StackIs M sp P co [] G) :
    CallW tbl 15 (.cons (.ptr sp 0) (.cons (VlA v) .nil)) M fun r M' => r = .ret (.int 3 5) ∧ But (fun _ => False) M M' := by
  refine CallW.wf fun hw => ?_
  obtain ⟨vk, vn⟩ := v
  refine CallW.intro T.h15 rfl (fr := .nod (.val .leaf (.ptr sp 0) .leaf) (.val .leaf (VlA ⟨vk, vn⟩) .leaf)) rfl ?_
  simp only [go_sem, cf15, VlA]
  have b0 := But.new (S := fun _ => False) hw (.cells [.int 3 vk, .int 3 vn] false)
  refine (state_end T (hS.quiet b0)).use ?_
  rintro r M1 hw1 ⟨rfl, b1⟩
  simp only [go_sem]
  first | exact b0.trans b1 | exact ⟨rfl, b0.trans b1⟩
end Go.Proofs.Ythpnhdopheofcaa
end
section
namespace Go.Proofs.Ythpnhdopheofcaa
open Go.Dx
variable {tbl : Nat → Option CFunc}
theorem enter_bad (T : SkT tbl) {M : Mem} {sp : Pos} {P : Pos → Prop} {cs : List Fr} {f : Fr} {G : Hp} {s h : List Vl} {a q bs : Nat} (hS : StackIs M sp P 2 (cs ++ [f]) G) (hW : SX G s h) (hb : f.base = bs) (hbs : bs + 1 ≤ s.length) (hc : cs.length < 2 ^ 30)
    (hq : q ≤ 20) (hbad : s.length ≤ bs + 1 + a ∨ (∃ x, s[s.length - 1 - a]? = some x ∧ x.k ≠ 7) ∨ 99 ≤ cs.length) (ha : a < 2 ^ 20) :
    CallW tbl 19 (.cons (.ptr sp 0) (.cons (.int 3 a) (.cons (.int 3 q) .nil))) M fun r M' => (∃ e, r = .ret (.int 3 e)) ∧ But (fun _ => False) M M' := by
  refine CallW.wf fun hw => ?_
  have hg := hW.good (cs := cs) (f := f) (by omega) (by omega) hc
  refine CallW.intro T.h19 rfl (fr := .nod (.val (.val .leaf (.int 3 q) .leaf) (.ptr sp 0) .leaf) (.val .leaf (.int 3 a) .leaf)) rfl ?_
  simp only [go_sem, cf19]
  refine (hg.state T hS).use ?_
  rintro r M1 hw1 ⟨rfl, b1⟩
  have hS1 := hS.quiet b1
  simp only [go_sem]
  refine (height_spec T hg hS1).use ?_
  rintro r M2 hw2 ⟨rfl, b2⟩
  have hS2 := hS1.quiet b2
  have hol := hW.len
  rw [hb]
  have g1 : decide ((a : Int) < 0) = false := by simp only [decide_eq_false_iff_not]; omega
  by_cases c1 : s.length ≤ bs + 1 + a
  · have g2 : decide ((s.length : Int) - bs - 1 ≤ a) = true := by simp only [decide_eq_true_eq]; omega
    simp only [go_sem, g1, g2]
    exact ⟨⟨_, rfl⟩, b1.trans b2⟩
  · have g2 : decide ((s.length : Int) - bs - 1 ≤ a) = false := by simp only [decide_eq_false_iff_not]; omega
    have g3 : decide ((q : Int) < 0) = false := by simp only [decide_eq_false_iff_not]; omega
    have g4 : decide ((20 : Int) < q) = false := by simp only [decide_eq_false_iff_not]; omega
    have e1 : IntKind.i64.wrap ((s.length : Int) - bs - 1 - 1) = (s.length : Int) - bs - 2 := by rw [wrap64 (by omega) (by omega)]; omega
    have e2 : IntKind.i64.wrap ((s.length : Int) - bs - 2 - a) = (s.length : Int) - bs - 2 - a := by rw [wrap64 (by omega) (by omega)]
    simp only [go_sem, g1, g2, g3, g4, e1, e2]
    refine (reg_spec T hg hS2 (j := s.length - 1 - a) (by show _ < s.length; omega) (by omega) (by rw [hb]; omega)).use ?_
    rintro r M3 hw3 ⟨rfl, b3⟩
    have hS3 := hS2.quiet b3
    have hi : s.length - 1 - a < s.length := by omega
    by_cases hk : (s[s.length - 1 - a]'hi).k = 7
    · have g5 : ((s[s.length - 1 - a]'hi).k != 7) = false := by rw [hk]; rfl
      have h99 : 99 ≤ cs.length := by
        rcases hbad with e | ⟨x, e1, e2⟩ | e
        · exact absurd e c1
        · rw [List.getElem?_eq_getElem hi] at e1
          cases e1
          exact absurd hk e2
        · exact e
      obtain ⟨hp, cv, hz⟩ := hS3.cells
      obtain ⟨own, Z, rfl, rfl, rfl, hP, hB, hH⟩ := hS3.open_ hz
      have hz' := hz
      simp only [spC] at hz'
      have hlen := hB.cal.len
      rw [frL_len] at hlen
      simp only [List.length_append, List.length_cons, List.length_nil] at hlen
      have g6 : decide ((100 : Int) ≤ ((cs.length + (0 + 1) : Nat) : Int)) = true := by simp only [decide_eq_true_eq]; omega
      simp only [go_sem, VlA, g5, hz', hlen, g6]
      exact ⟨⟨_, rfl⟩, (b1.trans b2).trans b3⟩
    · have g5 : ((s[s.length - 1 - a]'hi).k != 7) = true := by rw [bne_iff_ne]; exact hk
      simp only [go_sem, VlA, g5]
      exact ⟨⟨_, rfl⟩, (b1.trans b2).trans b3⟩
theorem enter_end (T : SkT tbl) {M : Mem} {sp : Pos} {P : Pos → Prop} {co : Int} {G : Hp} {a q : Int} (hS : StackIs M sp P co [] G) :
    CallW tbl 19 (.cons (.ptr sp 0) (.cons (.int 3 a) (.cons (.int 3 q) .nil))) M fun r M' => (∃ e, r = .ret (.int 3 e)) ∧ But (fun _ => False) M M' := by
  refine CallW.wf fun hw => ?_
  refine CallW.intro T.h19 rfl (fr := .nod (.val (.val .leaf (.int 3 q) .leaf) (.ptr sp 0) .leaf) (.val .leaf (.int 3 a) .leaf)) rfl ?_
  simp only [go_sem, cf19]
  refine (state_end T hS).use ?_
  rintro r M1 hw1 ⟨rfl, b1⟩
  simp only [go_sem]
  exact ⟨⟨_, rfl⟩, b1⟩
theorem leave_none (T : SkT tbl) {M : Mem} {sp : Pos} {P : Pos → Prop} {cs : List Fr} {f : Fr} {G : Hp} {s h : List Vl} (hS : StackIs M sp P 2 (cs ++ [f]) G) (hW : SX G s h) (h0 : 0 ≤ f.base) (hb : f.base + 1 = s.length) (hc : cs.length < 2 ^ 30) :
    CallW tbl 28 (.cons (.ptr sp 0) .nil) M fun r M' => (∃ v, r = .ret v) ∧ But (fun _ => False) M M' := by
  refine CallW.wf fun hw => ?_
  have hg := hW.good (cs := cs) (f := f) h0 (by omega) hc
  refine CallW.intro T.h28 rfl (fr := .nod (.val .leaf (.ptr sp 0) .leaf) .leaf) rfl ?_
  simp only [go_sem, cf28]
  refine (hg.state T hS).use ?_
  rintro r M1 hw1 ⟨rfl, b1⟩
  simp only [go_sem]
  refine (height_spec T hg (hS.quiet b1)).use ?_
  rintro r M2 hw2 ⟨rfl, b2⟩
  have g1 : (((s.length : Nat) : Int) - f.base - 1 == 0) = true := by rw [beq_iff_eq]; omega
  simp only [go_sem, g1]
  exact ⟨⟨_, rfl⟩, b1.trans b2⟩
theorem leave_end (T : SkT tbl) {M : Mem} {sp : Pos} {P : Pos → Prop} {co : Int} {G : Hp} (hS : StackIs M sp P co [] G) :
    CallW tbl 28 (.cons (.ptr sp 0) .nil) M fun r M' => (∃ v, r = .ret v) ∧ But (fun _ => False) M M' := by
  refine CallW.wf fun hw => ?_
  refine CallW.intro T.h28 rfl (fr := .nod (.val .leaf (.ptr sp 0) .leaf) .leaf) rfl ?_
  simp only [go_sem, cf28]
  refine (state_end T hS).use ?_
  rintro r M1 hw1 ⟨rfl, b1⟩
  simp only [go_sem]
  exact ⟨⟨_, rfl⟩, b1⟩
theorem try_end (T : SkT tbl) {M : Mem} {sp : Pos} {P : Pos → Prop} {co : Int} {G : Hp} {t : Int} (hS : StackIs M sp P co [] G) :
    CallW tbl 17 (.cons (.ptr sp 0) (.cons (.int 3 t) .nil)) M fun r M' => (∃ v, r = .ret v) ∧ But (fun _ => False) M M' := by
  refine CallW.wf fun hw => ?_
  refine CallW.intro T.h17 rfl (fr := .nod (.val .leaf (.ptr sp 0) .leaf) (.val .leaf (.int 3 t) .leaf)) rfl ?_
  simp only [go_sem, cf17]
  refine (state_end T hS).use ?_
  rintro r M1 hw1 ⟨rfl, b1⟩
  simp only [go_sem]
  exact ⟨⟨_, rfl⟩, b1⟩
theorem throw_end (T : SkT tbl) {M : Mem} {sp : Pos} {P : Pos → Prop} {co : Int} {G : Hp} {v : Vl} (hS : StackIs M sp P co [] G) :
    CallW tbl 20 (.cons (.ptr sp 0) (.cons (VlA v) .nil)) M fun r M' => r = .ret (.tuple (.cons (.bool false) (.cons (.int 3 5) .nil))) ∧ But (fun _ => False) M M' := by
  refine CallW.wf fun hw => ?_
  obtain ⟨vk, vn⟩ := v
  refine CallW.intro T.h20 rfl (fr := .nod (.val .leaf (.ptr sp 0) .leaf) (.val .leaf (VlA ⟨vk, vn⟩) .leaf)) rfl ?_
  simp only [go_sem, cf20, VlA]
  have b0 := But.new (S := fun _ => False) hw (.cells [.int 3 vk, .int 3 vn] false)
  refine (state_end T (hS.quiet b0)).use ?_
  rintro r M1 hw1 ⟨rfl, b1⟩
  simp only [go_sem]
  first | exact b0.trans b1 | exact ⟨rfl, b0.trans b1⟩
end Go.Proofs.Ythpnhdopheofcaa
end
section
namespace Go.Proofs.Ythpnhdopheofcaa
open Go.Dx
variable {tbl : Nat → Option CFunc}
theorem store_x (T : SkT tbl) (h32 : tbl 32 = some cf32) (h79 : tbl 79 = some cf79) {M : Mem} {sp : Pos} {P : Pos → Prop} {cs : List Fr} {f : Fr} {G : Hp} {s h : List Vl} {v : Vl} {a bs : Nat} (hS : StackIs M sp P 2 (cs ++ [f]) G) (hW : SX G (s ++ [v]) h) (hb : f.base = bs) (ha : bs + 1 + a < s.length) (hc : cs.length < 2 ^ 30) :
    CallW tbl 32 (.cons (.ptr sp 0) (.cons (.int 3 a) .nil)) M fun r M' => r = .ret (.int 3 0) ∧ (∃ G', StackIs M' sp P 2 (cs ++ [f]) G' ∧ SX G' (s.set (bs + 1 + a) v) h) ∧ But (fun p => ¬ P p) M M' ∧ ∀ hp, HpOf M sp hp → HpOf M' sp hp := by
  refine CallW.wf fun hw => ?_
  have hl := hW.len
  rw [List.length_append] at hl
  simp only [List.length_cons, List.length_nil] at hl
  have hg := hW.good (cs := cs) (f := f) (by omega) (by rw [List.length_append]; simp only [List.length_cons, List.length_nil]; omega) hc
  refine CallW.intro h32 rfl (fr := .nod (.val .leaf (.ptr sp 0) .leaf) (.val .leaf (.int 3 a) .leaf)) rfl ?_
  simp only [go_sem, cf32]
  refine (hg.state T hS).use ?_
  rintro r M1 hw1 ⟨rfl, b1⟩
  have hS1 := hS.quiet b1
  have g1 : decide ((a : Int) < 0) = false := by simp only [decide_eq_false_iff_not]; omega
  simp only [go_sem, g1]
  refine (height_spec T hg hS1).use ?_
  rintro r M2 hw2 ⟨rfl, b2⟩
  have hS2 := hS1.quiet b2
  rw [hb]
  have e1 : IntKind.i64.wrap ((((s ++ [v]).length : Nat) : Int) - bs - 1 - 1) = (s.length : Int) - bs - 1 := by
    rw [List.length_append]; simp only [List.length_cons, List.length_nil]
    rw [wrap64 (by omega) (by omega)]; omega
  have g2 : decide ((s.length : Int) - bs - 1 ≤ a) = false := by simp only [decide_eq_false_iff_not]; omega
  have i4r := hS2.wide (But_reserve M2 _) (Nat.le_refl _) (by show M2.next.num < M2.next.succ.num; rw [Pos.num_succ]; omega)
  obtain ⟨hp, cv, hz⟩ := hS2.cells
  have hzr : (⟨M2.next.succ, M2.get⟩ : Mem).get sp = spC hp 2 cv := hz
  have hz' := hz
  simp only [spC] at hz'
  simp only [go_sem, e1, g2]
  refine (n_spec T.h69 i4r).use ?_
  rintro r M3 hw3 ⟨rfl, rfl⟩
  simp only [go_sem, hz']
  refine (hpop_x T i4r hzr hW (by omega)).use ?_
  rintro r M4 hw4 ⟨rfl, ⟨G4, s4, w4⟩, b4, hz4⟩
  have hq : (M2.next.num < M4.next.num) = True := eq_true (by have := b4.next; have e : M2.next.succ.num ≤ M4.next.num := this; rw [Pos.num_succ] at e; omega)
  obtain ⟨vk, vn⟩ := v
  have ne2 := hw2.ne hz'
  generalize hqq : M2.next = q at *
  have bp : But (fun p => p = q) M4 ((M4.put q (.cells [.int 3 0, .int 3 0] false)).put q (.cells [.int 3 vk, .int 3 vn] false)) :=
    (But.put (S := fun p => p = q) (p := q) _ rfl _).trans (But.put (S := fun p => p = q) (p := q) _ rfl _)
  have s5 := s4.frame (bp.mono fun p hp => .inr hp)
  have x5 : ((M4.put q (.cells [.int 3 0, .int 3 0] false)).put q (.cells [.int 3 vk, .int 3 vn] false)).get q = some (.cells [.int 3 vk, .int 3 vn] false) := by simp [Mem.put]
  have hz5 : ((M4.put q (.cells [.int 3 0, .int 3 0] false)).put q (.cells [.int 3 vk, .int 3 vn] false)).get sp = spC hp 2 cv := by
    have e0 : ¬ (sp = q) := of_eq_false ne2
    simp only [Mem.put, if_neg e0]
    exact hz4
  have w5 : ((M4.put q (.cells [.int 3 0, .int 3 0] false)).put q (.cells [.int 3 vk, .int 3 vn] false)).wf := fun p c' hp' => by
    by_cases e : p = q
    · subst e; exact of_eq_true hq
    · simp only [Mem.put, if_neg e] at hp'; exact hw4 p c' hp'
  simp only [go_sem, VlA, hq]
  generalize hM5 : (M4.put q (.cells [.int 3 0, .int 3 0] false)).put q (.cells [.int 3 vk, .int 3 vn] false) = M5 at *
  have e5 : M5.next = M4.next := by rw [← hM5]; rfl
  have s5r := s5.wide (But_reserve M5 _) (Nat.le_refl _) (by show M5.next.num < M5.next.succ.num; rw [Pos.num_succ]; omega)
  rw [e5] at s5r
  have hz5r : (⟨M4.next.succ, M5.get⟩ : Mem).get sp = spC hp 2 cv := hz5
  have hz5' := hz5
  simp only [spC] at hz5'
  refine (n_spec T.h69 s5r).use ?_
  rintro r M6 hw6 ⟨rfl, rfl⟩
  obtain ⟨own, Z, rfl, rfl, rfl, hP, hB, hH⟩ := s5r.open_ hz5r
  obtain ⟨p, po, pn, a1, htop, c0, c1, c2, hown⟩ := Good.top T hB hc
  simp only [go_sem]
  refine htop.use ?_
  rintro r M7 hw7 ⟨rfl, rfl⟩
  rw [hb] at c0
  have c0' : MB.cell (M5.get p) (po + cs.length * 3) = some (.int 3 bs) := c0
  have e2 : IntKind.i64.wrap ((bs : Int) + 1) = ((bs + 1 : Nat) : Int) := by rw [wrap64 (by omega) (by omega)]; omega
  have e3 : IntKind.i64.wrap (((bs + 1 : Nat) : Int) + a) = ((bs + 1 + a : Nat) : Int) := by rw [wrap64 (by omega) (by omega)]; omega
  simp only [go_sem, Nat.add_zero, c0', hz5', e2, e3, x5]
  refine (hswap_x T h79 (i := bs + 1 + a) (v := ⟨vk, vn⟩) s5r hz5r w4 ha).use ?_
  rintro r M8 hw8 ⟨rfl, ⟨G8, s8, w8⟩, b8, hz8⟩
  generalize hov : s[bs + 1 + a] = ov at *
  obtain ⟨ok_, on_⟩ := ov
  have hq8 : (M4.next.num < M8.next.num) = True := eq_true (by have := b8.next; have e : M4.next.succ.num ≤ M8.next.num := this; rw [Pos.num_succ] at e; omega)
  have ne5 := w5.ne hz5'
  rw [e5] at ne5
  generalize hqq8 : M4.next = q8 at *
  have bp8 : But (fun p => p = q8) M8 ((M8.put q8 (.cells [.int 3 0, .int 3 0] false)).put q8 (.cells [.int 3 ok_, .int 3 on_] false)) :=
    (But.put (S := fun p => p = q8) (p := q8) _ rfl _).trans (But.put (S := fun p => p = q8) (p := q8) _ rfl _)
  have s9 := s8.frame (bp8.mono fun p hp => .inr hp)
  have x9 : ((M8.put q8 (.cells [.int 3 0, .int 3 0] false)).put q8 (.cells [.int 3 ok_, .int 3 on_] false)).get q8 = some (.cells [.int 3 ok_, .int 3 on_] false) := by simp [Mem.put]
  have hz9 : ((M8.put q8 (.cells [.int 3 0, .int 3 0] false)).put q8 (.cells [.int 3 ok_, .int 3 on_] false)).get Z.sp = spC Z.hp 2 Z.cv := by
    have e0 : ¬ (Z.sp = q8) := of_eq_false ne5
    simp only [Mem.put, if_neg e0]
    exact hz8
  have hz9' := hz9
  simp only [spC] at hz9'
  have hz8' := hz8
  simp only [spC] at hz8'
  simp only [go_sem, VlA, hq8, ne5, hz8']
  generalize hM9 : (M8.put q8 (.cells [.int 3 0, .int 3 0] false)).put q8 (.cells [.int 3 ok_, .int 3 on_] false) = M9 at *
  refine (hdrop_x T (v := ⟨ok_, on_⟩) s9 hz9 w8).use ?_
  rintro r M10 hw10 ⟨rfl, ⟨G10, s10, w10⟩, b10, hz10⟩
  simp only [go_sem]
  have hlo : ∀ p, P p → p.num < q.num := fun p hp => by obtain ⟨_, _, _, h2, _⟩ := hS2; rw [← hqq]; exact (h2 p hp).2
  have hlt : q.num < q8.num := of_eq_true hq
  have bR : But (fun _ => False) M2 ⟨q.succ, M2.get⟩ := by rw [← hqq]; exact But_reserve M2 _
  have bR8 : But (fun _ => False) M5 ⟨q8.succ, M5.get⟩ := by rw [← e5]; exact But_reserve M5 _
  have t1 : But (fun p => ¬ P p) M M4 := (((b1.trans b2).trans bR).any _).trans (b4.mono fun p hn hp => hn (.inl hp))
  have t2 := t1.trans (bp.mono fun p e hp => by subst e; have := hlo _ hp; omega)
  have t3 := (t2.trans (bR8.any _)).trans (b8.mono fun p hn hp => hn (.inl (.inl hp)))
  have t4 := t3.trans (bp8.mono fun p e hp => by subst e; have := hlo _ hp; omega)
  exact ⟨⟨G10, s10.less fun p hp => .inl (.inl hp), w10⟩, t4.trans (b10.mono fun p hn hp => hn (.inl (.inl hp))), fun hp0 h0 => by
    have e := h0.same (b1.trans b2) hz'
    subst e
    exact ⟨_, _, hz10⟩⟩
theorem store_bad (T : SkT tbl) (h32 : tbl 32 = some cf32) {M : Mem} {sp : Pos} {P : Pos → Prop} {cs : List Fr} {f : Fr} {G : Hp} {s h : List Vl} {a bs : Nat} (hS : StackIs M sp P 2 (cs ++ [f]) G) (hW : SX G s h) (hb : f.base = bs) (hbs : bs + 1 ≤ s.length) (ha : s.length ≤ bs + 2 + a) (ha2 : a < 2 ^ 20) (hc : cs.length < 2 ^ 30) :
    CallW tbl 32 (.cons (.ptr sp 0) (.cons (.int 3 a) .nil)) M fun r M' => (∃ e, r = .ret (.int 3 e)) ∧ But (fun _ => False) M M' := by
  refine CallW.wf fun hw => ?_
  have hl := hW.len
  have hg := hW.good (cs := cs) (f := f) (by omega) (by omega) hc
  refine CallW.intro h32 rfl (fr := .nod (.val .leaf (.ptr sp 0) .leaf) (.val .leaf (.int 3 a) .leaf)) rfl ?_
  simp only [go_sem, cf32]
  refine (hg.state T hS).use ?_
  rintro r M1 hw1 ⟨rfl, b1⟩
  have g1 : decide ((a : Int) < 0) = false := by simp only [decide_eq_false_iff_not]; omega
  simp only [go_sem, g1]
  refine (height_spec T hg (hS.quiet b1)).use ?_
  rintro r M2 hw2 ⟨rfl, b2⟩
  rw [hb]
  have e1 : IntKind.i64.wrap ((s.length : Int) - bs - 1 - 1) = (s.length : Int) - bs - 2 := by rw [wrap64 (by omega) (by omega)]; omega
  have g2 : decide ((s.length : Int) - bs - 2 ≤ a) = true := by simp only [decide_eq_true_eq]; omega
  simp only [go_sem, e1, g2]
  exact ⟨⟨_, rfl⟩, b1.trans b2⟩
theorem store_end (T : SkT tbl) (h32 : tbl 32 = some cf32) {M : Mem} {sp : Pos} {P : Pos → Prop} {co : Int} {G : Hp} {a : Int} (hS : StackIs M sp P co [] G) :
    CallW tbl 32 (.cons (.ptr sp 0) (.cons (.int 3 a) .nil)) M fun r M' => (∃ e, r = .ret (.int 3 e)) ∧ But (fun _ => False) M M' := by
  refine CallW.wf fun hw => ?_
  refine CallW.intro h32 rfl (fr := .nod (.val .leaf (.ptr sp 0) .leaf) (.val .leaf (.int 3 a) .leaf)) rfl ?_
  simp only [go_sem, cf32]
  refine (state_end T hS).use ?_
  rintro r M1 hw1 ⟨rfl, b1⟩
  simp only [go_sem]
  exact ⟨⟨_, rfl⟩, b1⟩
end Go.Proofs.Ythpnhdopheofcaa
end
section
namespace Go.Proofs.Ythpnhdopheofcaa
open Go.Dx
variable {tbl : Nat → Option CFunc}
theorem maxKeys_spec : ∀ {es : ME} {lo n : Int}, (∀ a ∈ es.keys, intKey a) → (∀ m, AV.int 3 m ∈ es.keys → m ≤ n) → lo ≤ n → (lo = n ∨ AV.int 3 n ∈ es.keys) → maxKeys es lo = some n := by
  intro es
  induction es with
  | nil =>
    intro lo n _ _ _ h
    rcases h with rfl | h
    · rfl
    · simp [ME.keys] at h
  | cons k v b r ih =>
    intro lo n h1 h2 h3 h4
    obtain ⟨m, rfl⟩ := h1 k (by simp [ME.keys])
    have hm := h2 m (by simp [ME.keys])
    simp only [maxKeys, if_true]
    refine ih (fun a ha => h1 a (by simp [ME.keys, ha])) (fun x hx => h2 x (by simp [ME.keys, hx])) (by omega) ?_
    rcases h4 with rfl | h4
    · exact .inl (by omega)
    · simp only [ME.keys, List.mem_cons, AV.int.injEq, true_and] at h4
      rcases h4 with h4 | h4
      · exact .inl (by omega)
      · exact .inr h4
theorem last_spec {f : Nat} (h : tbl f = some ⟨.skip, [], some (.nat natLast)⟩) {M : Mem} {own : Own} {Y : Lay} {G : Hp} (hB : HeapB M own Y G) {n : Int} (h0 : 0 ≤ n) (h1 : ∀ m, G.taken m = true → m ≤ n) (h2 : n = 0 ∨ G.taken n = true) :
    CallW tbl f (.cons (.ptr Y.pp 0) .nil) M fun r M' => r = .ret (.int 3 n) ∧ M' = M := by
  intro H hs
  obtain ⟨es, c, k1, k2, k3⟩ := hB.tpc
  have e1 : H.cell Y.pp 0 = some (.map Y.tp) := hs.cell (by rw [Mem.cell_eq, hB.ppc]; rfl)
  obtain ⟨_, o, e2, e3⟩ := hs.at_ _ _ k1
  have e5 : H.get Y.tp = some (.map es c) := by
    cases o <;> simp_all [BRel]
  have e4 : maxKeys es 0 = some n := maxKeys_spec k2.good (fun m hm => h1 m (by
    have := (k2.mem _ ⟨m, rfl⟩).1 hm
    cases ht : G.taken m with
    | true => rfl
    | false => simp [takenF, ht] at this)) h0 (by
    rcases h2 with h2 | h2
    · exact .inl h2.symm
    · exact .inr ((k2.mem _ ⟨n, rfl⟩).2 (by simp [takenF, h2])))
  exact ⟨0, .ret (.int 3 n), H, M, by simp [callN, doCall, h, natLast, e1, e5, k3, e4], hs, rfl, rfl⟩
end Go.Proofs.Ythpnhdopheofcaa
end
section
namespace Go.Proofs.Ythpnhdopheofcaa
open Go.Dx
variable {tbl : Nat → Option CFunc}
def refsL (l : List Vl) : List Int := (l.filter refV).map (·.n)
theorem refsL_snoc (l : List Vl) (v : Vl) : refsL (l ++ [v]) = refsL l ++ (if refV v then [v.n] else []) := by
  unfold refsL
  rw [List.filter_append, List.map_append]
  cases h : refV v <;> simp [h]
theorem refsL_len (l : List Vl) : (refsL l).length ≤ l.length := by unfold refsL; rw [List.length_map]; exact List.length_filter_le _ _
set_option maxHeartbeats 1000000 in
theorem refs_x (T : SkT tbl) (h : tbl 30 = some cf30) {M : Mem} {sv : AV} {l : List Vl} (hs : SlIs M sv 2 (VlL l)) (hl : l.length ≤ 2 ^ 30) :
    CallW tbl 30 (.cons sv .nil) M fun r M' => (∃ v, r = .ret v ∧ SlIs M' v 1 (IntL (refsL l))) ∧ But (fun _ => False) M M' := by
  refine CallW.wf fun hw => ?_
  refine CallW.intro h rfl (fr := .nod (.val .leaf sv .leaf) .leaf) rfl ?_
  have hlen : slLen sv = some l.length := by rw [hs.len, vlL_len]
  simp only [go_sem, cf30, hlen]
  refine loop_wp (I := fun n fr M' => ∃ k own v, n + k = l.length ∧ M'.wf ∧ SlO M' own (90, 0) v 1 (IntL (refsL (l.take k))) ∧ own.in M' ∧ (∀ p, own p ≠ none → M.next.num ≤ p.num) ∧ But (fun p => False ∨ M.next.num ≤ p.num) M M' ∧
    fr.get (.o (.i (.o .h))) = some (.int 3 k) ∧ fr.get (.o (.o (.o .h))) = some sv ∧ fr.get (.i (.o (.o .h))) = some (.int 3 l.length) ∧ fr.get (.i (.o .h)) = some v) (n := l.length) ?_ ?_
  · exact ⟨0, fun _ => none, .nilslice, rfl, hw, SlO.nil _ _ _ _, fun p hp => absurd rfl hp, fun p hp => absurd rfl hp, But.refl _ _, rfl, rfl, rfl, rfl⟩
  · rintro n fr M' ⟨k, own, v, i0, i1, i2, i3, i4, i5, f1, f2, f3, f4⟩
    have b0 := But.fresh hw i5
    cases n with
    | zero =>
      have e : k = l.length := by omega
      subst e
      have g : decide (((l.length : Nat) : Int) < (l.length : Int)) = false := by simp only [decide_eq_false_iff_not]; omega
      simp only [go_sem, f1, f2, f3, f4, g]
      rw [List.take_length] at i2
      exact ⟨⟨_, rfl, i2.rows⟩, b0⟩
    | succ n =>
      have hk : k < l.length := by omega
      have g : decide (((k : Nat) : Int) < (l.length : Int)) = true := by simp only [decide_eq_true_eq]; omega
      have hs' : SlIs M' sv 2 (VlL l) := hs.old b0.old
      obtain ⟨p, po, a1, a2⟩ := hs'.at_ (i := k) (by rw [vlL_len]; exact hk)
      rw [vlL_len] at a1
      rw [show (VlL l)[k]? = some [.int 3 l[k].k, .int 3 l[k].n] by simp [VlL, VlR, hk]] at a2
      have et : l.take (k + 1) = l.take k ++ [l[k]] := List.take_succ_eq_append_getElem hk
      have es := refsL_snoc (l.take k) l[k]
      rw [← et] at es
      have hn := refsL_len (l.take k)
      rw [List.length_take] at hn
      generalize hv : l[k] = w at *
      obtain ⟨vk, vn⟩ := w
      have b1 := But.fill i1 (.cells [.int 3 0, .int 3 0] false) (.cells [.int 3 vk, .int 3 vn] false)
      have w1 := i1.fill (.cells [.int 3 0, .int 3 0] false) (.cells [.int 3 vk, .int 3 vn] false)
      have x1 : ((M'.new (.cells [.int 3 0, .int 3 0] false)).put M'.next (.cells [.int 3 vk, .int 3 vn] false)).get M'.next = some (.cells [.int 3 vk, .int 3 vn] false) := by simp [Mem.put]
      simp only [go_sem, f1, f2, f3, f4, g, hk, a1, a2]
      refine (ref_spec T.h77 T.h117 T.h143 (v := ⟨vk, vn⟩)).use ?_
      rintro r M2 hw2 ⟨rfl, b2⟩
      have x2 := b2.get _ _ id x1
      have bb := b1.trans b2
      have i2' := i2.keep (own' := own) (fun p b _ hp => bb.get _ _ id hp) fun _ h => h
      have i3' := Own.in.mono i3 bb.next
      have e1 : IntKind.i64.wrap ((k : Int) + 1) = ((k + 1 : Nat) : Int) := by rw [wrap64 (by omega) (by omega)]; omega
      have i5' : But (fun p => False ∨ M.next.num ≤ p.num) M M2 := i5.trans (bb.any _)
      cases hr : refV ⟨vk, vn⟩ with
      | false =>
        rw [hr] at es
        simp only [Bool.false_eq_true, if_false, List.append_nil] at es
        simp only [go_sem, f1, f2, f3, f4, e1]
        exact ⟨n, by omega, k + 1, own, v, by omega, hw2, by rw [es]; exact i2', i3', i4, i5', by simp [Tr.get_set], by simp [Tr.get_set, f2], by simp [Tr.get_set, f3], by simp [Tr.get_set, f4]⟩
      | true =>
        rw [hr] at es
        simp only [if_true] at es
        obtain ⟨v5, M5, own5, p5, s5, u5, b5, w5⟩ := i2'.push_ hw2 i3' (n := 1) (c := 1) (X := [[.int 3 vn]]) (x := [.int 3 vn]) rfl rfl (by simp [isCell]) (by omega) (by rw [intL_len]; simp only [most, List.length_cons, List.length_nil]; omega)
        simp only [go_sem, f1, f2, f3, f4, e1, x2, p5]
        refine ⟨n, by omega, k + 1, own5, v5, by omega, w5, by rw [es]; simpa [IntL] using s5, u5.in_ i3' b5.next, fun p hp => ?_, i5'.trans (b5.mono fun p hp => .inr (i4 p (by rw [hp]; simp))), by simp [Tr.get_set], by simp [Tr.get_set, f2], by simp [Tr.get_set, f3], by simp [Tr.get_set]⟩
        rcases u5 p with e | ⟨_, _, e, _⟩
        · rw [e] at hp; exact i4 p hp
        · have := i5'.next; omega
end Go.Proofs.Ythpnhdopheofcaa
end
section
namespace Go.Proofs.Ythpnhdopheofcaa
open Go.Dx
variable {tbl : Nat → Option CFunc}
def obZ : Ob := ⟨0, 0, [], 0, 0, 0⟩
def obAt (G : Hp) (i : Nat) : Ob := (G.objs ((i : Int) + 1)).getD obZ
def GrL (l : List Ob) (sv : Nat → AV) : List (List AV) := l.mapIdx fun i o => ObR o (sv i)
theorem grL_len (l : List Ob) (sv : Nat → AV) : (GrL l sv).length = l.length := by simp [GrL]
theorem grL_at (l : List Ob) (sv : Nat → AV) {i : Nat} (hi : i < l.length) : (GrL l sv)[i]? = some (ObR l[i] (sv i)) := by simp [GrL, hi]
theorem grL_snoc (l : List Ob) (o : Ob) (sv : Nat → AV) (v : AV) : GrL l sv ++ [ObR o v] = GrL (l ++ [o]) (fun i => if i = l.length then v else sv i) := by
  apply List.ext_getElem?
  intro i
  by_cases hi : i < l.length
  · rw [List.getElem?_append_left (by rw [grL_len]; exact hi), grL_at _ _ hi, grL_at _ _ (by simp; omega)]
    rw [List.getElem_append_left hi, if_neg (by omega)]
  · by_cases e : i = l.length
    · subst e
      rw [List.getElem?_append_right (by rw [grL_len]; exact Nat.le_refl _), grL_at _ _ (by simp)]
      simp [grL_len]
    · rw [List.getElem?_eq_none (by simp [grL_len]; omega), List.getElem?_eq_none (by simp [grL_len]; omega)]
def GrIs (M : Mem) (gv : AV) (l : List Ob) : Prop := ∃ sv : Nat → AV, SlIs M gv 5 (GrL l sv) ∧ ∀ i (hi : i < l.length), SlIs M (sv i) 2 (VlL l[i].slots)
theorem freshNil (M M' : Mem) (h : M.next.num ≤ M'.next.num) (size : Nat) : FreshSl M M' .nilslice size [] := fun own t hi => ⟨own, OwnUp.refl _ _ _ _, SlO.nil _ _ _ _⟩
theorem obj_any (T : SkT tbl) {M : Mem} {hp : Pos} {P : Pos → Prop} {G : Hp} {i : Nat} (hH : HeapIs M hp P G) (hl : ∀ n o, G.objs n = some o → o.slots.length ≤ most) :
    CallW tbl 25 (.cons (.ptr hp 0) (.cons (.int 3 ((i : Int) + 1)) .nil)) M fun r M' => ∃ sv, r = .ret (ObA (obAt G i) sv) ∧ FreshSl M M' sv 2 (VlL (obAt G i).slots) ∧ But (fun _ => False) M M' := by
  cases ho : G.objs ((i : Int) + 1) with
  | some o =>
    have e : obAt G i = o := by simp [obAt, ho]
    rw [e]
    exact obj_some T.h25 T.h75 T.h76 hH ho (hl _ _ ho)
  | none =>
    have e : obAt G i = obZ := by simp [obAt, ho]
    rw [e]
    refine (obj_none T.h25 T.h75 T.h76 hH ho).mono ?_
    rintro r M' ⟨rfl, b⟩
    exact ⟨_, rfl, freshNil _ _ b.next _, b⟩
end Go.Proofs.Ythpnhdopheofcaa
end
section
namespace Go.Proofs.Ythpnhdopheofcaa
open Go.Dx
variable {tbl : Nat → Option CFunc}
set_option maxHeartbeats 4000000 in
theorem graph_x (T : SkT tbl) (h53 : tbl 53 = some cf53) (h104 : tbl 104 = some ⟨.skip, [], some (.nat natLast)⟩) {M : Mem} {hp : Pos} {P : Pos → Prop} {G : Hp} {N : Nat} (hH : HeapIs M hp P G) (hN : N < 2 ^ 20) (h1 : ∀ m, G.taken m = true → m ≤ N) (h2 : (N : Int) = 0 ∨ G.taken N = true) (hl : ∀ n o, G.objs n = some o → o.slots.length ≤ most) :
    CallW tbl 53 (.cons (.ptr hp 0) .nil) M fun r M' => (∃ gv, r = .ret (.agg (.cons gv .nil)) ∧ GrIs M' gv ((List.range N).map (obAt G))) ∧ But (fun _ => False) M M' := by
  refine CallW.wf fun hw => ?_
  refine CallW.intro h53 rfl (fr := .nod (.val .leaf (.ptr hp 0) .leaf) .leaf) rfl ?_
  have b0 := But.new (S := fun _ => False) hw (.cells [.nilslice] false)
  have w0 := hw.new (.cells [.nilslice] false)
  have b1 := But.new (S := fun _ => False) w0 (.cells [.nilslice] false)
  have w1 := w0.new (.cells [.nilslice] false)
  have b01 := b0.trans b1
  have hH1 := hH.quiet b01
  have hH1' := (hH.quiet b0).more w0 (.cells [.nilslice] false)
  have hn0 : (M.new (.cells [.nilslice] false)).next = M.next.succ := rfl
  rw [hn0] at hH1'
  have x0 : ((M.new (.cells [.nilslice] false)).new (.cells [.nilslice] false)).get M.next = some (.cells [.nilslice] false) := by simp only [go_sem]
  have x1 : ((M.new (.cells [.nilslice] false)).new (.cells [.nilslice] false)).get M.next.succ = some (.cells [.nilslice] false) := by simp only [go_sem]
  have hn1 : ((M.new (.cells [.nilslice] false)).new (.cells [.nilslice] false)).next = M.next.succ.succ := rfl
  obtain ⟨own0, Y, rfl, hP, hB⟩ := hH1
  have hcc := hB.hpc
  simp only [hpC] at hcc
  simp only [go_sem, cf53]
  have hcc' := hcc
  simp only [go_sem] at hcc'
  simp only [go_sem, hcc']
  generalize hM1 : (M.new (.cells [.nilslice] false)).new (.cells [.nilslice] false) = M1 at *
  refine (last_spec h104 hB (n := (N : Int)) (by omega) h1 h2).use ?_
  rintro r M2 hw2 ⟨rfl, rfl⟩
  have hq01 : M.next.succ.num = M.next.num + 1 := Pos.num_succ _
  have hn2 : M2.next.num = M.next.num + 2 := by rw [hn1, Pos.num_succ, hq01]
  generalize hq0 : M.next = q0 at *
  generalize hq1 : q0.succ = q1 at *
  have hH2 : HeapIs M2 Y.hp P G := ⟨own0, Y, rfl, hP, hB⟩
  simp only [go_sem]
  refine loop_wp (I := fun n fr M' => ∃ (k : Nat) (own : Own) (v : AV) (sv : Nat → AV), n + k = N ∧ M'.wf ∧ SlO M' own (91, 0) v 5 (GrL ((List.range k).map (obAt G)) sv) ∧ (∀ i, i < k → SlO M' own (92, (i : Int)) (sv i) 2 (VlL (obAt G i).slots)) ∧ own.in M' ∧ (∀ p, own p ≠ none → M2.next.num ≤ p.num) ∧
    But (fun p => p = q1 ∨ M2.next.num ≤ p.num) M2 M' ∧ M'.get q1 = some (.cells [v] false) ∧ fr.get (.i (.i (.i .h))) = some (.int 3 k) ∧ fr.get (.o (.i (.i .h))) = some (.int 3 N) ∧ fr.get (.o .h) = some (.ptr Y.hp 0) ∧ fr.get (.i (.o .h)) = some (.ptr q1 0) ∧ fr.get (.o (.o .h)) = some (.ptr q0 0)) (n := N) ?_ ?_
  · exact ⟨0, fun _ => none, .nilslice, fun _ => .nilslice, rfl, hw2, SlO.nil _ _ _ _, fun i hi => absurd hi (Nat.not_lt_zero _), fun p hp => absurd rfl hp, fun p hp => absurd rfl hp, But.refl _ _, x1, rfl, rfl, rfl, rfl, rfl⟩
  · rintro n fr M' ⟨k, own, v, sv, i0, i1, i2, i3, i4, i5, i6, i7, f1, f2, f3, f4, f5⟩
    cases n with
    | zero =>
      have e : k = N := by omega
      subst e
      have g : decide ((k : Int) < (k : Int)) = false := by simp
      have x0' : M'.get q0 = some (.cells [.nilslice] false) := i6.get _ _ (fun e => by
        rcases e with e | e
        · rw [← e] at hq01; omega
        · omega) x0
      have hc := i2.cell
      simp only [go_sem, f1, f2, f3, f4, f5, g, i7, x0', hc]
      have kp : ∀ p b s, own p = some s → M'.get p = some b → (M'.put q0 (.cells [v] false)).get p = some b := fun p b s ho hp => by
        have := i5 p (by rw [ho]; simp)
        show (if p = q0 then _ else M'.get p) = _
        rw [if_neg (fun e => by rw [e] at this; omega)]; exact hp
      refine ⟨⟨v, rfl, sv, (i2.keep (own' := own) (fun p b ho hp => kp p b _ ho hp) fun _ h => h).rows, fun i hi => ?_⟩, ?_⟩
      · have hi' : i < k := by simpa using hi
        have := ((i3 i hi').keep (own' := own) (fun p b ho hp => kp p b _ ho hp) fun _ h => h).rows
        simpa using this
      · have hq0' : ∀ p : Pos, (p = q1 ∨ M2.next.num ≤ p.num) → M.next.num ≤ p.num := fun p h => by
          rw [hq0]
          rcases h with rfl | h <;> omega
        exact But.fresh hw (((b01.any _).trans (i6.mono fun p h => .inr (hq0' p h))).trans (But.put (p := q0) _ (.inr (by rw [hq0]; exact Nat.le_refl _)) _))
    | succ n =>
      have g : decide ((k : Int) < (N : Int)) = true := by simp only [decide_eq_true_eq]; omega
      have e1 : IntKind.i64.wrap ((k : Int) + 1) = (k : Int) + 1 := wrap64 (by omega) (by omega)
      have e2 : ((k : Int) + 1) = ((k + 1 : Nat) : Int) := by omega
      have e3 : IntKind.i64.wrap ((k + 1 : Nat) : Int) = ((k + 1 : Nat) : Int) := wrap64 (by omega) (by omega)
      have hH' : HeapIs M' Y.hp P G := (hH1'.frame ((But.fresh hw2 i6).mono fun p h => .inr h)).less fun p h => .inl h
      have hHr : HeapIs ⟨M'.next.succ, M'.get⟩ Y.hp P G := hH'.quiet (But_reserve M' _)
      simp only [go_sem, f1, f2, f3, f4, f5, g, e1]
      refine (obj_any T (i := k) hHr hl).use ?_
      rintro r M4 hw4 ⟨s4, rfl, hf4, b4⟩
      obtain ⟨own4, u4, so4⟩ := hf4 own (92, (k : Int)) (Own.in.mono i4 (by show M'.next.num ≤ M'.next.succ.num; rw [Pos.num_succ]; omega))
      have i7' : M4.get q1 = some (.cells [v] false) := b4.get _ _ id i7
      have hq : (M'.next.num < M4.next.num) = True := eq_true (by have := b4.next; have e : M'.next.succ.num ≤ M4.next.num := this; rw [Pos.num_succ] at e; omega)
      have hc4 := so4.cell
      have ownq : own4 M'.next = none := by
        rcases u4 M'.next with e | ⟨_, _, e, _⟩
        · rw [e]
          cases ho : own M'.next with
          | none => rfl
          | some t => have := i4 M'.next (by rw [ho]; simp); omega
        · have e' : M'.next.succ.num ≤ M'.next.num := e
          rw [Pos.num_succ] at e'; omega
      have i2' : SlO M4 own4 (91, 0) v 5 (GrL ((List.range k).map (obAt G)) sv) := i2.keep (fun p b _ hp => b4.get _ _ id hp) fun _ h => u4.old h
      have i3' : ∀ i, i < k → SlO M4 own4 (92, (i : Int)) (sv i) 2 (VlL (obAt G i).slots) := fun i hi => (i3 i hi).keep (fun p b _ hp => b4.get _ _ id hp) fun _ h => u4.old h
      have i4' : own4.in M4 := u4.in_ (Own.in.mono i4 (by show M'.next.num ≤ M'.next.succ.num; rw [Pos.num_succ]; omega)) b4.next
      generalize hob : obAt G k = ob at *
      generalize hqq : M'.next = q at *
      have ne1 : (q1 = q) = False := eq_false fun e => by have := i1 q1 _ i7; rw [e, hqq] at this; omega
      simp only [go_sem, ObA, hq, f4, i7', ne1, hc4]
      have bR : But (fun _ => False) M' ⟨q.succ, M'.get⟩ := by rw [← hqq]; exact But_reserve M' _
      have hq2 : M2.next.num ≤ q.num := by rw [← hqq]; exact i6.next
      have own4_ge : ∀ p, own4 p ≠ none → M2.next.num ≤ p.num := fun p hp => by
        rcases u4 p with e | ⟨_, _, e, _⟩
        · rw [e] at hp; exact i5 p hp
        · have e' : q.succ.num ≤ p.num := e
          rw [Pos.num_succ] at e'; omega
      have o1 : own4 q1 = none := by
        cases ho : own4 q1 with
        | none => rfl
        | some t => have := own4_ge q1 (by rw [ho]; simp); omega
      have w5 : (M4.put q (.cells (ObR ob s4) false)).wf := fun p c hp => by
        by_cases e : p = q
        · subst e; exact of_eq_true hq
        · have hp' : (if p = q then some (MB.cells (ObR ob s4) false) else M4.get p) = some c := hp
          rw [if_neg e] at hp'; exact hw4 p c hp'
      have x5 : (M4.put q (.cells (ObR ob s4) false)).get q = some (.cells (ObR ob s4) false) := by simp [Mem.put]
      have kq : ∀ p b s, own4 p = some s → M4.get p = some b → (M4.put q (.cells (ObR ob s4) false)).get p = some b := fun p b s ho hp => by
        show (if p = q then _ else M4.get p) = _
        rw [if_neg (fun e => by rw [e, ownq] at ho; cases ho)]; exact hp
      obtain ⟨v6, M6, own6, p6, s6, u6, b6, w6⟩ := slO_pushFrom (i2'.keep (own' := own4) (fun p b ho hp => kq p b _ ho hp) fun _ h => h) w5 i4' x5 (n := 1) (c := 1) (X := [ObR ob s4]) rfl (by simp) (fun x hx => by rw [List.mem_singleton.1 hx]; exact ⟨rfl, by simp [ObR, hc4, show ∀ n, isCell (.int 3 n) = true from fun _ => rfl, show ∀ a b, isCell (.str a b) = true from fun _ _ => rfl]⟩) (by omega) (by rw [grL_len]; simp [most]; omega)
      have hc6 := s6.cell
      have x5q1 : (M4.put q (.cells (ObR ob s4) false)).get q1 = some (.cells [v] false) := by
        show (if q1 = q then _ else M4.get q1) = _
        rw [if_neg (of_eq_false ne1)]; exact i7'
      have x6 : M6.get q1 = some (.cells [v] false) := b6.get _ _ (fun e => by rw [o1] at e; cases e) x5q1
      have o6 : own6 q1 = none := by
        rcases u6 q1 with e | ⟨_, _, e, _⟩
        · rw [e]; exact o1
        · have e' : M4.next.num ≤ q1.num := e
          have := of_eq_true hq
          omega
      have el : ((List.range k).map (obAt G)).length = k := by simp
      rw [grL_snoc, el] at s6
      have er : (List.range (k + 1)).map (obAt G) = (List.range k).map (obAt G) ++ [ob] := by rw [List.range_succ, List.map_append, ← hob]; rfl
      have kk : ∀ p b s, own4 p = some s → s ≠ (91, 0) → M4.get p = some b → (M6.put q1 (.cells [v6] false)).get p = some b := fun p b s ho hs hp => by
        show (if p = q1 then _ else M6.get p) = _
        rw [if_neg (fun e => by rw [e, o1] at ho; cases ho)]
        exact b6.get p b (fun e => by rw [ho] at e; exact hs (Option.some.inj e)) (kq p b s ho hp)
      simp only [ObR] at p6
      simp only [go_sem, i7, p6, f1, f2, f3, f4, f5, x6, hc6, e1, e2, e3]
      refine ⟨n, by omega, k + 1, own6, v6, fun i => if i = k then s4 else sv i, by omega, w6.put x6 _, ?_, ?_, ?_, ?_, ?_, ?_, ?_, ?_, ?_, ?_, ?_⟩
      · rw [er]
        exact s6.keep (own' := own6) (fun p b ho hp => by
          show (if p = q1 then _ else M6.get p) = _
          rw [if_neg (fun e => by rw [e, o6] at ho; cases ho)]; exact hp) fun _ h => h
      · intro i hi
        by_cases e : i = k
        · subst e
          show SlO _ _ _ (if i = i then s4 else sv i) 2 _
          rw [if_pos rfl, hob]
          exact so4.keep (own' := own6) (fun p b ho hp => kk p b _ ho (by simp) hp) fun _ h => u6.old h
        · show SlO _ _ _ (if i = k then s4 else sv i) 2 _
          rw [if_neg e]
          exact (i3' i (by omega)).keep (own' := own6) (fun p b ho hp => kk p b _ ho (by simp) hp) fun _ h => u6.old h
      · exact u6.in_ i4' b6.next
      · intro p hp
        rcases u6 p with e | ⟨_, _, e, _⟩
        · rw [e] at hp; exact own4_ge p hp
        · have e' : M4.next.num ≤ p.num := e
          have := of_eq_true hq
          omega
      · exact ((((i6.trans (bR.any _)).trans (b4.any _)).trans (But.put (p := q) _ (.inr hq2) _)).trans (b6.mono fun p hp => .inr (own4_ge p (by rw [hp]; simp)))).trans (But.put (p := q1) _ (.inl rfl) _)
      · simp [Mem.put]
      · simp [Tr.get_set]
      · simp [Tr.get_set, f2]
      · simp [Tr.get_set, f3]
      · simp [Tr.get_set, f4]
      · simp [Tr.get_set, f5]
end Go.Proofs.Ythpnhdopheofcaa
end
section
namespace Go.Proofs.Ythpnhdopheofcaa
open Go.Dx
variable {tbl : Nat → Option CFunc}
theorem slIs_cell {M : Mem} {v : AV} {size : Nat} {L : List (List AV)} (h : SlIs M v size L) : isCell v = true := by
  rcases slLen_shape h.len with rfl | ⟨p, o, c, rfl⟩ | ⟨p, o, s, rfl⟩ <;> rfl
theorem GrIs.old {M M' : Mem} {gv : AV} {os : List Ob} (h : GrIs M gv os) (b : But (fun _ => False) M M') : GrIs M' gv os := by
  obtain ⟨sv, h1, h2⟩ := h
  exact ⟨sv, h1.old b.old, fun i hi => (h2 i hi).old b.old⟩
def slotOk (os : List Ob) (v : Vl) : Prop := mayV v = true ∧ v.k ≠ 0 ∧ (refV v = true → ∃ (i : Nat) (hi : i < os.length), v.n = (i : Int) + 1 ∧ os[i].kind = v.k)
set_option maxHeartbeats 1000000 in
theorem slot_x (T : SkT tbl) (h138 : tbl 138 = some cf138) {M : Mem} {gv : AV} {os : List Ob} {v : Vl} (hg : GrIs M gv os) (hl : os.length < 2 ^ 20) (hv : slotOk os v) :
    CallW tbl 138 (.cons (.agg (.cons gv .nil)) (.cons (VlA v) .nil)) M fun r M' => r = .ret (.bool true) ∧ But (fun _ => False) M M' := by
  refine CallW.wf fun hw => ?_
  obtain ⟨hm, hk, hr⟩ := hv
  obtain ⟨sv, hs, hss⟩ := hg
  have hgc := slIs_cell hs
  have hlen := hs.len
  rw [grL_len] at hlen
  obtain ⟨vk, vn⟩ := v
  refine CallW.intro h138 rfl (fr := .nod (.val .leaf (.agg (.cons gv .nil)) .leaf) (.val .leaf (VlA ⟨vk, vn⟩) .leaf)) rfl ?_
  have b0 := But.new (S := fun _ => False) hw (.cells [gv] false)
  have w0 := hw.new (.cells [gv] false)
  have b1 := But.new (S := fun _ => False) w0 (.cells [.int 3 vk, .int 3 vn] false)
  have w1 := w0.new (.cells [.int 3 vk, .int 3 vn] false)
  have b01 := b0.trans b1
  have x0 : ((M.new (.cells [gv] false)).new (.cells [.int 3 vk, .int 3 vn] false)).get M.next = some (.cells [gv] false) := by simp only [go_sem]
  have x1 : ((M.new (.cells [gv] false)).new (.cells [.int 3 vk, .int 3 vn] false)).get M.next.succ = some (.cells [.int 3 vk, .int 3 vn] false) := by simp only [go_sem]
  have hs1 := hs.old b01.old
  simp only [go_sem, cf138, VlA, hgc]
  generalize hM1 : (M.new (.cells [gv] false)).new (.cells [.int 3 vk, .int 3 vn] false) = M1 at *
  refine (may_spec T.h117 T.h143 (v := ⟨vk, vn⟩)).use ?_
  rintro r M2 hw2 ⟨rfl, b2⟩
  have y1 := b2.get _ _ id x1
  have g0 : (vk == 0) = false := by rw [beq_eq_false_iff_ne]; exact hk
  have hs2 := hs1.old b2.old
  have y0 := b2.get _ _ id x0
  simp only [go_sem, hm, y1, g0]
  refine (ref_spec T.h77 T.h117 T.h143 (v := ⟨vk, vn⟩)).use ?_
  rintro r M3 hw3 ⟨rfl, b3⟩
  have z1 := b3.get _ _ id y1
  have z0 := b3.get _ _ id y0
  have hs3 := hs2.old b3.old
  have bb : But (fun _ => False) M M3 := (b01.trans b2).trans b3
  cases hrv : refV ⟨vk, vn⟩ with
  | false =>
    simp only [go_sem]
    first | exact bb | exact ⟨rfl, bb⟩
  | true =>
    obtain ⟨i, hi, e1, e2⟩ := hr hrv
    have e1' : vn = (i : Int) + 1 := e1
    subst e1'
    have g1 : decide ((i : Int) + 1 ≤ (os.length : Int)) = true := by simp only [decide_eq_true_eq]; omega
    have e3 : IntKind.i64.wrap ((i : Int) + 1 - 1) = (i : Int) := by rw [wrap64 (by omega) (by omega)]; omega
    obtain ⟨p, po, a1, a2⟩ := hs3.at_ (i := i) (by rw [grL_len]; exact hi)
    rw [grL_len] at a1
    rw [grL_at _ _ hi] at a2
    have a3 := MB.cell_row a2 (j := 0) (by simp [ObR])
    have e2' : os[i].kind = vk := e2
    have a3' : MB.cell (M3.get p) (po + i * 5) = some (.int 3 vk) := by simpa [ObR, e2'] using a3
    simp only [go_sem, z1, z0, hlen, g1, e3, a1, hi, a3', Nat.add_zero]
    first | exact bb | exact ⟨rfl, bb⟩
end Go.Proofs.Ythpnhdopheofcaa
end
section
namespace Go.Proofs.Ythpnhdopheofcaa
open Go.Dx
variable {tbl : Nat → Option CFunc}
theorem index_none1 (h : tbl 145 = some cf145) {g : Nat} {cap : AV} {M : Mem} {sv : AV} {l : List Vl} (hs : SlIs M sv 2 (VlL l)) (hl : l.length < 2 ^ 62) (hcall : ∀ v ∈ l, ∀ M', M'.wf → But (fun _ => False) M M' → CallW tbl g (.cons (VlA v) (.cons cap .nil)) M' fun r M'' => r = .ret (.bool false) ∧ But (fun _ => False) M' M'') :
    CallW tbl 145 (.cons sv (.cons (.func (.func g) .nil (.cons cap .nil)) .nil)) M fun r M' => r = .ret (.int 3 (-1)) ∧ But (fun _ => False) M M' := by
  refine CallW.wf fun hw => ?_
  refine CallW.intro h rfl (fr := .nod (.val .leaf sv .leaf) (.val .leaf (.func (.func g) .nil (.cons cap .nil)) .leaf)) rfl ?_
  have hlen := hs.len
  rw [vlL_len] at hlen
  simp only [go_sem, cf145, hlen]
  refine loop_wp (I := fun n fr M' => n ≤ l.length ∧ M'.wf ∧ But (fun _ => False) M M' ∧ fr.get (.o .h) = some sv ∧ fr.get (.i .h) = some (.func (.func g) .nil (.cons cap .nil)) ∧ fr.get (.i (.o (.o .h))) = some (.int 3 l.length) ∧ fr.get (.o (.i (.o .h))) = some (.int 3 ((l.length - n : Nat) : Int))) (n := l.length) ?_ ?_
  · exact ⟨Nat.le_refl _, hw, But.refl _ _, rfl, rfl, rfl, by rw [Nat.sub_self]; rfl⟩
  · rintro n fr M' ⟨i1, i2, i3, f1, f2, f3, f4⟩
    cases n with
    | zero =>
      have g1 : decide (((l.length - 0 : Nat) : Int) < (l.length : Int)) = false := by simp only [decide_eq_false_iff_not]; omega
      simp only [go_sem, f1, f2, f3, f4, g1]
      exact i3
    | succ n =>
      have g1 : decide (((l.length - (n + 1) : Nat) : Int) < (l.length : Int)) = true := by simp only [decide_eq_true_eq]; omega
      have hi : l.length - (n + 1) < l.length := by omega
      obtain ⟨p, po, a1, a2⟩ := (hs.old i3.old).at_ (i := l.length - (n + 1)) (by rw [vlL_len]; exact hi)
      rw [vlL_len] at a1
      have a3 : (VlL l)[l.length - (n + 1)]? = some (VlR l[l.length - (n + 1)]) := by simp [VlL, hi]
      rw [a3] at a2
      simp only [VlR] at a2
      simp only [go_sem, f1, f2, f3, f4, g1, a1, a2, hi]
      refine (hcall l[l.length - (n + 1)] (List.getElem_mem hi) M' i2 i3).use ?_
      rintro r M2 hw2 ⟨rfl, b2⟩
      have e1 : IntKind.i64.wrap (((l.length - (n + 1) : Nat) : Int) + 1) = ((l.length - n : Nat) : Int) := by rw [wrap64 (by omega) (by omega)]; omega
      simp only [go_sem, f1, f2, f3, f4, e1]
      exact ⟨n, by omega, by omega, hw2, i3.trans b2, by simp [Tr.get_set, f1], by simp [Tr.get_set, f2], by simp [Tr.get_set, f3], by rw [Tr.get_set]; rfl⟩
theorem contains_none1 (h : tbl 121 = some cf121) (h1 : tbl 145 = some cf145) {g : Nat} {cap : AV} {M : Mem} {sv : AV} {l : List Vl} (hs : SlIs M sv 2 (VlL l)) (hl : l.length < 2 ^ 62) (hcall : ∀ v ∈ l, ∀ M', M'.wf → But (fun _ => False) M M' → CallW tbl g (.cons (VlA v) (.cons cap .nil)) M' fun r M'' => r = .ret (.bool false) ∧ But (fun _ => False) M' M'') :
    CallW tbl 121 (.cons sv (.cons (.func (.func g) .nil (.cons cap .nil)) .nil)) M fun r M' => r = .ret (.bool false) ∧ But (fun _ => False) M M' := by
  refine CallW.intro h rfl (fr := .nod (.val .leaf sv .leaf) (.val .leaf (.func (.func g) .nil (.cons cap .nil)) .leaf)) rfl ?_
  simp only [go_sem, cf121]
  refine (index_none1 h1 hs hl hcall).use ?_
  rintro r M1 hw1 ⟨rfl, b1⟩
  have g1 : decide ((0 : Int) ≤ -1) = false := rfl
  simp only [go_sem, g1]
  first | exact b1 | exact ⟨rfl, b1⟩
theorem index_noneO (h : tbl 132 = some cf132) {g : Nat} {cap : AV} {M : Mem} {sv : AV} {l : List Ob} {tv : Nat → AV} (hs : SlIs M sv 5 (GrL l tv)) (hl : l.length < 2 ^ 62) (hcall : ∀ i (hi : i < l.length), ∀ M', M'.wf → But (fun _ => False) M M' → CallW tbl g (.cons (ObA l[i] (tv i)) (.cons cap .nil)) M' fun r M'' => r = .ret (.bool false) ∧ But (fun _ => False) M' M'') :
    CallW tbl 132 (.cons sv (.cons (.func (.func g) .nil (.cons cap .nil)) .nil)) M fun r M' => r = .ret (.int 3 (-1)) ∧ But (fun _ => False) M M' := by
  refine CallW.wf fun hw => ?_
  refine CallW.intro h rfl (fr := .nod (.val .leaf sv .leaf) (.val .leaf (.func (.func g) .nil (.cons cap .nil)) .leaf)) rfl ?_
  have hlen := hs.len
  rw [grL_len] at hlen
  simp only [go_sem, cf132, hlen]
  refine loop_wp (I := fun n fr M' => n ≤ l.length ∧ M'.wf ∧ But (fun _ => False) M M' ∧ fr.get (.o .h) = some sv ∧ fr.get (.i .h) = some (.func (.func g) .nil (.cons cap .nil)) ∧ fr.get (.i (.o (.o .h))) = some (.int 3 l.length) ∧ fr.get (.o (.i (.o .h))) = some (.int 3 ((l.length - n : Nat) : Int))) (n := l.length) ?_ ?_
  · exact ⟨Nat.le_refl _, hw, But.refl _ _, rfl, rfl, rfl, by rw [Nat.sub_self]; rfl⟩
  · rintro n fr M' ⟨i1, i2, i3, f1, f2, f3, f4⟩
    cases n with
    | zero =>
      have g1 : decide (((l.length - 0 : Nat) : Int) < (l.length : Int)) = false := by simp only [decide_eq_false_iff_not]; omega
      simp only [go_sem, f1, f2, f3, f4, g1]
      exact i3
    | succ n =>
      have g1 : decide (((l.length - (n + 1) : Nat) : Int) < (l.length : Int)) = true := by simp only [decide_eq_true_eq]; omega
      have hi : l.length - (n + 1) < l.length := by omega
      obtain ⟨p, po, a1, a2⟩ := (hs.old i3.old).at_ (i := l.length - (n + 1)) (by rw [grL_len]; exact hi)
      rw [grL_len] at a1
      rw [grL_at _ _ hi] at a2
      simp only [ObR] at a2
      simp only [go_sem, f1, f2, f3, f4, g1, a1, a2, hi]
      refine (hcall (l.length - (n + 1)) hi M' i2 i3).use ?_
      rintro r M2 hw2 ⟨rfl, b2⟩
      have e1 : IntKind.i64.wrap (((l.length - (n + 1) : Nat) : Int) + 1) = ((l.length - n : Nat) : Int) := by rw [wrap64 (by omega) (by omega)]; omega
      simp only [go_sem, f1, f2, f3, f4, e1]
      exact ⟨n, by omega, by omega, hw2, i3.trans b2, by simp [Tr.get_set, f1], by simp [Tr.get_set, f2], by simp [Tr.get_set, f3], by rw [Tr.get_set]; rfl⟩
theorem contains_noneO (h : tbl 105 = some cf105) (h1 : tbl 132 = some cf132) {g : Nat} {cap : AV} {M : Mem} {sv : AV} {l : List Ob} {tv : Nat → AV} (hs : SlIs M sv 5 (GrL l tv)) (hl : l.length < 2 ^ 62) (hcall : ∀ i (hi : i < l.length), ∀ M', M'.wf → But (fun _ => False) M M' → CallW tbl g (.cons (ObA l[i] (tv i)) (.cons cap .nil)) M' fun r M'' => r = .ret (.bool false) ∧ But (fun _ => False) M' M'') :
    CallW tbl 105 (.cons sv (.cons (.func (.func g) .nil (.cons cap .nil)) .nil)) M fun r M' => r = .ret (.bool false) ∧ But (fun _ => False) M M' := by
  refine CallW.intro h rfl (fr := .nod (.val .leaf sv .leaf) (.val .leaf (.func (.func g) .nil (.cons cap .nil)) .leaf)) rfl ?_
  simp only [go_sem, cf105]
  refine (index_noneO h1 hs hl hcall).use ?_
  rintro r M1 hw1 ⟨rfl, b1⟩
  have g1 : decide ((0 : Int) ≤ -1) = false := rfl
  simp only [go_sem, g1]
  first | exact b1 | exact ⟨rfl, b1⟩
theorem slotcl_x (T : SkT tbl) (h137 : tbl 137 = some cf137) (h138 : tbl 138 = some cf138) {M : Mem} {gv : AV} {os : List Ob} {v : Vl} {gb : Pos} {fl : Bool} (hg : GrIs M gv os) (hgb : M.get gb = some (.cells [gv] fl)) (hl : os.length < 2 ^ 20) (hv : slotOk os v) :
    CallW tbl 137 (.cons (VlA v) (.cons (.ptr gb 0) .nil)) M fun r M' => r = .ret (.bool false) ∧ But (fun _ => False) M M' := by
  refine CallW.wf fun hw => ?_
  obtain ⟨vk, vn⟩ := v
  refine CallW.intro h137 rfl (fr := .nod (.val .leaf (VlA ⟨vk, vn⟩) .leaf) (.val .leaf (.ptr gb 0) .leaf)) rfl ?_
  have b1 := But.new (S := fun _ => False) hw (.cells [.int 3 vk, .int 3 vn] false)
  have ne := hw.ne hgb
  have hgc := slIs_cell hg.choose_spec.1
  simp only [go_sem, cf137, VlA, hgb, ne]
  refine (slot_x T h138 (v := ⟨vk, vn⟩) (hg.old b1) hl hv).use ?_
  rintro r M2 hw2 ⟨rfl, b2⟩
  simp only [go_sem]
  first | exact b1.trans b2 | exact ⟨rfl, b1.trans b2⟩
structure ObFine (os : List Ob) (o : Ob) : Prop where
  kind : 5 ≤ o.kind ∧ o.kind ≤ 9
  count : 0 ≤ o.count
  mark : -1 ≤ o.mark
  text : if o.kind = 5 then o.slots = [] else (o.tl = 0 ∧ o.tn = 0)
  slots : ∀ v ∈ o.slots, slotOk os v
  len : o.slots.length < 2 ^ 62
theorem obj1_x (h134 : tbl 134 = some cf134) {M : Mem} {ob : Pos} {o : Ob} {sv : AV} {fl : Bool} {os : List Ob} (ho : M.get ob = some (.cells (ObR o sv) fl)) (hf : ObFine os o) :
    CallW tbl 134 (.cons (.ptr ob 0) .nil) M fun r M' => r = .ret (.bool true) ∧ M' = M := by
  refine CallW.intro h134 rfl (fr := .nod (.val .leaf (.ptr ob 0) .leaf) .leaf) rfl ?_
  obtain ⟨k1, k2⟩ := hf.kind
  have k3 := hf.count
  have k4 := hf.mark
  have g1 : decide ((5 : Int) ≤ o.kind) = true := by simp only [decide_eq_true_eq]; exact k1
  have g2 : decide (o.kind ≤ (9 : Int)) = true := by simp only [decide_eq_true_eq]; exact k2
  have g3 : decide ((0 : Int) ≤ o.count) = true := by simp only [decide_eq_true_eq]; exact k3
  have g4 : decide ((-1 : Int) ≤ o.mark) = true := by simp only [decide_eq_true_eq]; exact k4
  simp only [ObR] at ho
  simp only [go_sem, cf134, ho, g1, g2, g3, g4]
theorem obj2_x (h135 : tbl 135 = some cf135) {M : Mem} {ob ib : Pos} {o : Ob} {sv : AV} {fl fl' : Bool} {os : List Ob} (ho : M.get ob = some (.cells (ObR o sv) fl)) (hi : M.get ib = some (.cells [.bool (o.kind == 5)] fl')) (hs : SlIs M sv 2 (VlL o.slots)) (hf : ObFine os o) :
    CallW tbl 135 (.cons (.ptr ib 0) (.cons (.ptr ob 0) .nil)) M fun r M' => r = .ret (.bool true) ∧ M' = M := by
  refine CallW.intro h135 rfl (fr := .nod (.val .leaf (.ptr ib 0) .leaf) (.val .leaf (.ptr ob 0) .leaf)) rfl ?_
  have hlen := hs.len
  rw [vlL_len] at hlen
  have ht := hf.text
  simp only [ObR] at ho
  by_cases h5 : o.kind = 5
  · rw [if_pos h5] at ht
    have g1 : (o.kind == 5) = true := by rw [beq_iff_eq]; exact h5
    rw [ht] at hlen
    simp only [List.length_nil] at hlen
    have g2 : (((0 : Nat) : Int) == 0) = true := rfl
    rw [g1] at hi
    simp only [go_sem, cf135, ho, hi, hlen, g2]
  · rw [if_neg h5] at ht
    have g1 : (o.kind == 5) = false := by rw [beq_eq_false_iff_ne]; exact h5
    rw [g1] at hi
    obtain ⟨t1, t2⟩ := ht
    rw [t1, t2] at ho
    simp only [go_sem, cf135, ho, hi]
theorem obj3_x (T : SkT tbl) (h136 : tbl 136 = some cf136) (h121 : tbl 121 = some cf121) (h145 : tbl 145 = some cf145) (h137 : tbl 137 = some cf137) (h138 : tbl 138 = some cf138) {M : Mem} {ob gb : Pos} {o : Ob} {sv gv : AV} {fl fl' : Bool} {os : List Ob} (ho : M.get ob = some (.cells (ObR o sv) fl)) (hgb : M.get gb = some (.cells [gv] fl')) (hg : GrIs M gv os) (hl : os.length < 2 ^ 20) (hs : SlIs M sv 2 (VlL o.slots)) (hf : ObFine os o) :
    CallW tbl 136 (.cons (.ptr ob 0) (.cons (.ptr gb 0) .nil)) M fun r M' => r = .ret (.bool true) ∧ But (fun _ => False) M M' := by
  refine CallW.wf fun hw => ?_
  refine CallW.intro h136 rfl (fr := .nod (.val .leaf (.ptr ob 0) .leaf) (.val .leaf (.ptr gb 0) .leaf)) rfl ?_
  simp only [ObR] at ho
  simp only [go_sem, cf136, ho]
  refine (contains_none1 h121 h145 (g := 137) (cap := .ptr gb 0) hs hf.len (fun v hv M' hw' b => slotcl_x T h137 h138 (hg.old b) (b.get _ _ id hgb) hl (hf.slots v hv))).use ?_
  rintro r M2 hw2 ⟨rfl, b2⟩
  simp only [go_sem]
  first | exact b2 | exact ⟨rfl, b2⟩
end Go.Proofs.Ythpnhdopheofcaa
end
section
namespace Go.Proofs.Ythpnhdopheofcaa
open Go.Dx
variable {tbl : Nat → Option CFunc}
theorem all_x (h : tbl 133 = some cf133) {M : Mem} {q : Pos} {g : Nat → Nat} {c : Nat → AV} {n : Nat} {l : List AV} {fl : Bool} (hn : n < 2 ^ 20) (hq : M.get q = some (.cells l fl)) (hl : ∀ i, i < n → l[i]? = some (.func (.func (g i)) .nil (c i)))
    (hcall : ∀ i, i < n → ∀ M', M'.wf → But (fun _ => False) M M' → CallW tbl (g i) (c i) M' fun r M'' => r = .ret (.bool true) ∧ But (fun _ => False) M' M'') :
    CallW tbl 133 (.cons (.slice q 0 n n) .nil) M fun r M' => r = .ret (.bool true) ∧ But (fun _ => False) M M' := by
  refine CallW.wf fun hw => ?_
  refine CallW.intro h rfl (fr := .nod (.val .leaf (.slice q 0 n n) .leaf) .leaf) rfl ?_
  simp only [go_sem, cf133]
  refine loop_wp (I := fun m fr M' => ∃ k : Nat, m + k = n ∧ M'.wf ∧ But (fun _ => False) M M' ∧ fr.get (.i (.i .h)) = some (.slice q 0 n n) ∧ fr.get (.o (.o (.o .h))) = some (.int 3 n) ∧ fr.get (.i (.o (.o .h))) = some (.int 3 k)) (n := n) ?_ ?_
  · exact ⟨0, rfl, hw, But.refl _ _, rfl, rfl, rfl⟩
  · rintro m fr M' ⟨k, i0, i1, i2, f1, f2, f3⟩
    cases m with
    | zero =>
      have g1 : decide ((k : Int) < (n : Int)) = false := by simp only [decide_eq_false_iff_not]; omega
      simp only [go_sem, f1, f2, f3, g1]
      first | exact i2 | exact ⟨rfl, i2⟩
    | succ m =>
      have hk : k < n := by omega
      have g1 : decide ((k : Int) < (n : Int)) = true := by simp only [decide_eq_true_eq]; omega
      have hq' := i2.get _ _ id hq
      have a1 : MB.cell (M'.get q) (0 + k * 1) = some (.func (.func (g k)) .nil (c k)) := by
        rw [hq']
        have := hl k hk
        simp only [MB.cell]
        rw [show 0 + k * 1 = k by omega]
        exact this
      have e1 : IntKind.i64.wrap ((k : Int) + 1) = ((k + 1 : Nat) : Int) := by rw [wrap64 (by omega) (by omega)]; omega
      simp only [go_sem, f1, f2, f3, g1, hk, a1]
      refine (hcall k hk M' i1 i2).use ?_
      rintro r M2 hw2 ⟨rfl, b2⟩
      simp only [go_sem, f1, f2, f3, e1]
      exact ⟨m, by omega, k + 1, by omega, hw2, i2.trans b2, by simp [Tr.get_set, f1], by simp [Tr.get_set, f2], by simp [Tr.get_set]⟩
end Go.Proofs.Ythpnhdopheofcaa
end
section
namespace Go.Proofs.Ythpnhdopheofcaa
open Go.Dx
variable {tbl : Nat → Option CFunc}
structure GrT (tbl : Nat → Option CFunc) : Prop where
  h54 : tbl 54 = some cf54
  h105 : tbl 105 = some cf105
  h106 : tbl 106 = some cf106
  h107 : tbl 107 = some cf107
  h121 : tbl 121 = some cf121
  h132 : tbl 132 = some cf132
  h133 : tbl 133 = some cf133
  h134 : tbl 134 = some cf134
  h135 : tbl 135 = some cf135
  h136 : tbl 136 = some cf136
  h137 : tbl 137 = some cf137
  h138 : tbl 138 = some cf138
  h145 : tbl 145 = some cf145
set_option maxHeartbeats 1000000 in
theorem obj_x (T : SkT tbl) (F : GrT tbl) {M : Mem} {gv sv : AV} {os : List Ob} {o : Ob} (hg : GrIs M gv os) (hl : os.length < 2 ^ 20) (hs : SlIs M sv 2 (VlL o.slots)) (hf : ObFine os o) :
    CallW tbl 107 (.cons (.agg (.cons gv .nil)) (.cons (ObA o sv) .nil)) M fun r M' => r = .ret (.bool true) ∧ But (fun _ => False) M M' := by
  refine CallW.wf fun hw => ?_
  have hgc := slIs_cell hg.choose_spec.1
  have hsc := slIs_cell hs
  refine CallW.intro F.h107 rfl (fr := .nod (.val .leaf (.agg (.cons gv .nil)) .leaf) (.val .leaf (ObA o sv) .leaf)) rfl ?_
  have b0 := But.new (S := fun _ => False) hw (.cells [gv] false)
  have w0 := hw.new (.cells [gv] false)
  have b1 := But.new (S := fun _ => False) w0 (.cells (ObR o sv) false)
  have w1 := w0.new (.cells (ObR o sv) false)
  have x0 : ((M.new (.cells [gv] false)).new (.cells (ObR o sv) false)).get M.next = some (.cells [gv] false) := by simp only [go_sem]
  have x1 : ((M.new (.cells [gv] false)).new (.cells (ObR o sv) false)).get M.next.succ = some (.cells (ObR o sv) false) := by simp only [go_sem]
  have n1 : ((M.new (.cells [gv] false)).new (.cells (ObR o sv) false)).next = M.next.succ.succ := rfl
  have g0 : (o.kind == 0) = false := by rw [beq_eq_false_iff_ne]; have := hf.kind.1; omega
  simp only [ObR] at b1 w1 x0 x1 n1
  simp only [go_sem, cf107, ObA, hgc, hsc, g0]
  generalize hM1 : (M.new (.cells [gv] false)).new (.cells [.int 3 o.kind, .int 3 o.count, sv, .str o.tl o.tn, .int 3 o.mark] false) = M1 at *
  have b01 := b0.trans b1
  have b2 := But.fill w1 (.cells [.bool false] false) (.cells [.bool (o.kind == 5)] false)
  have w2 := w1.fill (.cells [.bool false] false) (.cells [.bool (o.kind == 5)] false)
  have x2 : ((M1.new (.cells [.bool false] false)).put M1.next (.cells [.bool (o.kind == 5)] false)).get M1.next = some (.cells [.bool (o.kind == 5)] false) := by simp [Mem.put]
  have y0 := b2.get _ _ id x0
  have y1 := b2.get _ _ id x1
  have n2 : ((M1.new (.cells [.bool false] false)).put M1.next (.cells [.bool (o.kind == 5)] false)).next = M1.next.succ := rfl
  rw [n1] at b2 w2 x2 y0 y1 n2
  generalize hM2 : (M1.new (.cells [.bool false] false)).put M.next.succ.succ (.cells [.bool (o.kind == 5)] false) = M2 at *
  generalize hfs : [AV.func (Fn.func 134) AV.nil ((AV.ptr M.next.succ 0).cons AV.nil), AV.func (Fn.func 135) AV.nil ((AV.ptr M.next.succ.succ 0).cons ((AV.ptr M.next.succ 0).cons AV.nil)), AV.func (Fn.func 136) AV.nil ((AV.ptr M.next.succ 0).cons ((AV.ptr M.next 0).cons AV.nil))] = fs at *
  have b3 := But.new (S := fun _ => False) w2 (.cells fs false)
  have x3 : (M2.new (.cells fs false)).get M.next.succ.succ.succ = some (.cells fs false) := by simp [Mem.new, n2]
  have z0 := b3.get _ _ id y0
  have z1 := b3.get _ _ id y1
  have z2 := b3.get _ _ id x2
  have bb : But (fun _ => False) M (M2.new (.cells fs false)) := (b01.trans b2).trans b3
  have hg3 := hg.old bb
  have hs3 := hs.old bb.old
  refine (all_x F.h133 (n := 3) (l := fs) (g := fun i => if i = 0 then 134 else if i = 1 then 135 else 136) (c := fun i => if i = 0 then (AV.ptr M.next.succ 0).cons AV.nil else if i = 1 then (AV.ptr M.next.succ.succ 0).cons ((AV.ptr M.next.succ 0).cons AV.nil) else (AV.ptr M.next.succ 0).cons ((AV.ptr M.next 0).cons AV.nil)) (by decide) x3 (fun i hi => by
    rw [← hfs]
    match i, hi with
    | 0, _ => rfl
    | 1, _ => rfl
    | 2, _ => rfl) (fun i hi M' hw' b => by
    have c0 := b.get _ _ id z0
    have c1 := b.get _ _ id z1
    have c2 := b.get _ _ id z2
    match i, hi with
    | 0, _ =>
      refine (obj1_x F.h134 (o := o) c1 hf).mono ?_
      rintro r M'' ⟨rfl, rfl⟩
      exact ⟨rfl, But.refl _ _⟩
    | 1, _ =>
      refine (obj2_x F.h135 (o := o) c1 c2 (hs3.old b.old) hf).mono ?_
      rintro r M'' ⟨rfl, rfl⟩
      exact ⟨rfl, But.refl _ _⟩
    | 2, _ => exact obj3_x T F.h136 F.h121 F.h145 F.h137 F.h138 (o := o) c1 c0 (hg3.old b) hl (hs3.old b.old) hf)).use ?_
  rintro r M4 hw4 ⟨rfl, b4⟩
  simp only [go_sem]
  first | exact bb.trans b4 | exact ⟨rfl, bb.trans b4⟩
theorem check1_x (T : SkT tbl) (F : GrT tbl) {M : Mem} {gv sv : AV} {os : List Ob} {o : Ob} {gb : Pos} {fl : Bool} (hgb : M.get gb = some (.cells [gv] fl)) (hg : GrIs M gv os) (hl : os.length < 2 ^ 20) (hs : SlIs M sv 2 (VlL o.slots)) (hf : ObFine os o) :
    CallW tbl 106 (.cons (ObA o sv) (.cons (.ptr gb 0) .nil)) M fun r M' => r = .ret (.bool false) ∧ But (fun _ => False) M M' := by
  refine CallW.wf fun hw => ?_
  have hsc := slIs_cell hs
  refine CallW.intro F.h106 rfl (fr := .nod (.val .leaf (ObA o sv) .leaf) (.val .leaf (.ptr gb 0) .leaf)) rfl ?_
  have b1 := But.new (S := fun _ => False) hw (.cells [.int 3 o.kind, .int 3 o.count, sv, .str o.tl o.tn, .int 3 o.mark] false)
  have ne := hw.ne hgb
  simp only [go_sem, cf106, ObA, hsc, hgb, ne]
  refine (obj_x T F (o := o) (hg.old b1) hl (hs.old b1.old) hf).use ?_
  rintro r M2 hw2 ⟨rfl, b2⟩
  simp only [go_sem]
  first | exact b1.trans b2 | exact ⟨rfl, b1.trans b2⟩
theorem check_x (T : SkT tbl) (F : GrT tbl) {M : Mem} {gv : AV} {os : List Ob} (hg : GrIs M gv os) (hl : os.length < 2 ^ 20) (hf : ∀ o ∈ os, ObFine os o) :
    CallW tbl 54 (.cons (.agg (.cons gv .nil)) .nil) M fun r M' => r = .ret (.bool true) ∧ But (fun _ => False) M M' := by
  refine CallW.wf fun hw => ?_
  have hg0 := hg
  obtain ⟨sv, hs, hss⟩ := hg
  have hgc := slIs_cell hs
  refine CallW.intro F.h54 rfl (fr := .nod (.val .leaf (.agg (.cons gv .nil)) .leaf) .leaf) rfl ?_
  have b1 := But.new (S := fun _ => False) hw (.cells [gv] false)
  have x1 : (M.new (.cells [gv] false)).get M.next = some (.cells [gv] false) := by simp only [go_sem]
  have hg1 := hg0.old b1
  have hs1 := hs.old b1.old
  simp only [go_sem, cf54, hgc]
  refine (contains_noneO F.h105 F.h132 (g := 106) (cap := .ptr M.next 0) hs1 (by omega) (fun i hi M' hw' b => check1_x T F (b.get _ _ id x1) (hg1.old b) hl ((hss i hi).old (b1.trans b).old) (hf _ (List.getElem_mem hi)))).use ?_
  rintro r M2 hw2 ⟨rfl, b2⟩
  simp only [go_sem]
  first | exact b1.trans b2 | exact ⟨rfl, b1.trans b2⟩
end Go.Proofs.Ythpnhdopheofcaa
end
section
namespace Go.Proofs.Ythpnhdopheofcaa
open Go.Dx
variable {tbl : Nat → Option CFunc}
def cntI (n : Int) : List Int → Int
  | [] => 0
  | m :: l => (if m = n then 1 else 0) + cntI n l
theorem cntI_app (n : Int) (l r : List Int) : cntI n (l ++ r) = cntI n l + cntI n r := by
  induction l with
  | nil => simp [cntI]
  | cons m l ih => simp only [List.cons_append, cntI, ih]; omega
theorem cntI_nonneg (n : Int) (l : List Int) : 0 ≤ cntI n l := by
  induction l with
  | nil => exact Int.le_refl _
  | cons m l ih => simp only [cntI]; split <;> omega
theorem cntI_le (n : Int) (l : List Int) : cntI n l ≤ l.length := by
  induction l with
  | nil => exact Int.le_refl _
  | cons m l ih => simp only [cntI, List.length_cons]; split <;> omega
def cF (l : List Int) : AV → Option AV
  | .int _ n => if cntI n l = 0 then none else some (.int 3 (cntI n l))
  | _ => none
theorem cF_snoc (l : List Int) (m : Int) : ∀ a, intKey a → updF (cF l) (.int 3 m) (some (.int 3 (cntI m l + 1))) a = cF (l ++ [m]) a := by
  rintro a ⟨n, rfl⟩
  by_cases h : n = m
  · subst h
    have h0 := cntI_nonneg n l
    rw [updF_same]
    simp only [cF, cntI_app, cntI, if_true]
    rw [if_neg (by omega)]
    congr 2
  · rw [updF_ne _ _ (by simpa using h)]
    simp only [cF, cntI_app, cntI, if_neg (fun e : m = n => h e.symm)]
    simp
theorem cF_nil : ∀ a, intKey a → (fun _ => none : AV → Option AV) a = cF [] a := by
  rintro a ⟨n, rfl⟩
  simp [cF, cntI]
theorem cF_find {es : ME} {l : List Int} (h : MapIs (.leaf .int) intKey es (cF l)) (n : Int) : (es.find (.leaf .int) (.int 3 n) = some none ∧ cntI n l = 0) ∨ es.find (.leaf .int) (.int 3 n) = some (some (.int 3 (cntI n l))) := by
  have hf := h.find (.int 3 n) ⟨n, rfl⟩
  by_cases e : cntI n l = 0
  · left; simp only [cF, if_pos e] at hf; exact ⟨hf, e⟩
  · right; simp only [cF, if_neg e] at hf; exact hf
def allRefs (os : List Ob) : List Int := os.flatMap fun o => refsL o.slots
theorem allRefs_snoc (os : List Ob) (o : Ob) : allRefs (os ++ [o]) = allRefs os ++ refsL o.slots := by simp [allRefs]
theorem cnt_refs {l : List Vl} (h : ∀ v ∈ l, okV v) : cntI 1 (refsL l) = occ fV l ∧ cntI 3 (refsL l) = occ tV l ∧ cntI 2 (refsL l) = 0 := by
  induction l with
  | nil => exact ⟨rfl, rfl, rfl⟩
  | cons v l ih =>
    obtain ⟨i1, i2, i3⟩ := ih fun w hw => h w (List.mem_cons_of_mem _ hw)
    rcases h v (List.mem_cons_self ..) with rfl | rfl | hv
    · have e : refsL (fV :: l) = 1 :: refsL l := by show ((fV :: l).filter refV).map (·.n) = _; rw [List.filter_cons_of_pos refV_f]; rfl
      have ne : ¬ (fV = tV) := fun e => tV_ne e.symm
      rw [e]
      simp [cntI, occ, i1, i2, i3, ne]
    · have e : refsL (tV :: l) = 3 :: refsL l := by show ((tV :: l).filter refV).map (·.n) = _; rw [List.filter_cons_of_pos refV_t]; rfl
      have ne : ¬ (tV = fV) := tV_ne
      rw [e]
      simp [cntI, occ, i1, i2, i3, ne]
    · have e : refsL (v :: l) = refsL l := by show ((v :: l).filter refV).map (·.n) = _; rw [List.filter_cons_of_neg (by rw [refV_no hv.1]; decide)]; rfl
      rw [e]
      simp [occ, hv.ne, hv.net, i1, i2, i3]
theorem replI (n : Nat) (k : Int) : (repl (.cons (.int 3 k) .nil) n).isList = true ∧ (repl (.cons (.int 3 k) .nil) n).toL = List.replicate n (.int 3 k) := by
  induction n with
  | zero => exact ⟨rfl, rfl⟩
  | succ n ih =>
    obtain ⟨h1, h2⟩ := ih
    constructor
    · simpa [repl, AV.app, AV.isList] using h1
    · simp [repl, AV.app, AV.toL, h2, List.replicate_succ]
theorem makeInts (M : Mem) {n : Nat} (hn : n ≤ most) : makeO M (.cons (.int 3 0) .nil) 1 n n = some (M.next, M.new (.cells (List.replicate n (.int 3 0)) false)) := by
  obtain ⟨h1, h2⟩ := replI n 0
  unfold makeO
  rw [if_pos ⟨⟨Nat.le_refl _, hn, rfl⟩, h1⟩, h2]
  unfold Mem.row
  simp [isCell]
end Go.Proofs.Ythpnhdopheofcaa
end
section
namespace Go.Proofs.Ythpnhdopheofcaa
open Go.Dx
variable {tbl : Nat → Option CFunc}
theorem SlIs.past {M M1 M2 : Mem} {v : AV} {size : Nat} {L : List (List AV)} (h : SlIs M v size L) (hw : M.wf) {q : Pos} (b : But (fun p => p = q) M1 M2) (o : But (fun _ => False) M M1) (hq : M.next.num ≤ q.num) : SlIs M2 v size L := by
  by_cases hne : L = []
  · subst hne
    exact ⟨h.1, h.2.1, fun hne => absurd rfl hne⟩
  · exact (h.old o.old).but b (fun p o n hp e => by have := h.lt hw hne hp; rw [e] at this; omega)
def fillC (n k : Nat) (A : List Int) : List AV := (List.range n).map fun (i : Nat) => .int 3 (if i < k then cntI ((i : Int) + 1) A else 0)
theorem fillC_len (n k : Nat) (A : List Int) : (fillC n k A).length = n := by simp [fillC]
theorem fillC_zero (n : Nat) (A : List Int) : fillC n 0 A = List.replicate n (.int 3 0) := by
  refine List.ext_getElem (by simp [fillC]) fun i h1 h2 => ?_
  simp [fillC]
theorem fillC_full (n : Nat) (A : List Int) : fillC n n A = (IntL ((List.range n).map fun (i : Nat) => cntI ((i : Int) + 1) A)).flatten := by
  have e : ∀ l : List Int, (IntL l).flatten = l.map fun x => .int 3 x := by
    intro l; induction l with
    | nil => rfl
    | cons a l ih => simp only [IntL, List.map_cons, List.flatten_cons, List.singleton_append] at ih ⊢; rw [ih]
  rw [e]
  refine List.ext_getElem (by simp [fillC]) fun i h1 h2 => ?_
  have hi : i < n := by simpa [fillC] using h1
  simp [fillC, hi]
theorem fillC_over {n k : Nat} (A : List Int) (hk : k < n) : overL (fillC n k A) k [.int 3 (cntI ((k : Int) + 1) A)] = fillC n (k + 1) A := by
  have hl : k + [AV.int 3 (cntI ((k : Int) + 1) A)].length ≤ (fillC n k A).length := by rw [fillC_len]; exact hk
  refine List.ext_getElem? fun i => ?_
  rw [overL_get hl]
  by_cases hi : i < n
  · have e : ∀ m, (fillC n m A)[i]? = some (.int 3 (if i < m then cntI ((i : Int) + 1) A else 0)) := fun m => by simp [fillC, hi]
    rw [e, e]
    by_cases h1 : i < k
    · rw [if_pos h1, if_pos h1, if_pos (by omega)]
    · by_cases h2 : i = k
      · subst h2; simp
      · rw [if_neg h1, if_neg (by simp; omega), if_neg h1, if_neg (by omega)]
  · have e : ∀ m, (fillC n m A)[i]? = none := fun m => by simp [fillC, hi]
    rw [e, e, if_neg (by omega), if_neg (by simp; omega)]
theorem fillC_store {M : Mem} {q : Pos} {n k : Nat} {A : List Int} (h : M.get q = some (.cells (fillC n k A) false)) (hk : k < n) : M.store q (0 + k * 1) [.int 3 (cntI ((k : Int) + 1) A)] = some (M.put q (.cells (fillC n (k + 1) A) false)) := by
  unfold Mem.store
  rw [h]
  simp only [Nat.zero_add, Nat.mul_one]
  rw [if_pos ⟨by rw [fillC_len]; exact hk, rfl⟩, fillC_over A hk]
set_option maxHeartbeats 4000000 in
theorem into_x (T : SkT tbl) (F : GrT tbl) (h30 : tbl 30 = some cf30) (h108 : tbl 108 = some cf108) {M : Mem} {gv : AV} {os : List Ob} (hg : GrIs M gv os) (hl : os.length < 2 ^ 20) (hf : ∀ o ∈ os, ObFine os o) (hr : (allRefs os).length < 2 ^ 40) (hsl : ∀ o ∈ os, o.slots.length ≤ 2 ^ 30) :
    CallW tbl 108 (.cons (.agg (.cons gv .nil)) .nil) M fun r M' => (∃ v, r = .ret v ∧ SlIs M' v 1 (IntL ((List.range os.length).map fun (i : Nat) => cntI ((i : Int) + 1) (allRefs os)))) ∧ But (fun _ => False) M M' := by
  refine CallW.wf fun hw => ?_
  have hgc := slIs_cell hg.choose_spec.1
  refine CallW.intro h108 rfl (fr := .nod (.val .leaf (.agg (.cons gv .nil)) .leaf) .leaf) rfl ?_
  have b1 := But.new (S := fun _ => False) hw (.cells [gv] false)
  have w1 := hw.new (.cells [gv] false)
  have x1 : (M.new (.cells [gv] false)).get M.next = some (.cells [gv] false) := by simp only [go_sem]
  have n1 : (M.new (.cells [gv] false)).next = M.next.succ := rfl
  simp only [go_sem, cf108, hgc]
  generalize hM1 : M.new (.cells [gv] false) = M1 at *
  refine (check_x T F (hg.old b1) hl hf).use ?_
  rintro r M2 hw2 ⟨rfl, b2⟩
  have x2 := b2.get _ _ id x1
  have b12 := b1.trans b2
  have b3 := But.new (S := fun _ => False) hw2 (.map .nil 0)
  have w3 := hw2.new (.map .nil 0)
  have x3 := b3.get _ _ id x2
  have y3 : (M2.new (.map .nil 0)).get M2.next = some (.map .nil 0) := by simp [Mem.new]
  have hg2 := hg.old b12
  obtain ⟨sv, hs2, hss2⟩ := hg2
  have hs3 := hs2.old b3.old
  have hlen := hs3.len
  rw [grL_len] at hlen
  have nq : M.next ≠ M2.next := fun e => by have := hw2 _ _ x2; rw [e] at this; omega
  generalize hq : M.next = q at *
  have nqm : (q = M2.next) = False := eq_false nq
  simp only [go_sem, x2, nqm, hlen]
  generalize hM3 : M2.new (.map .nil 0) = M3 at *
  generalize hmp : M2.next = mp at *
  refine loop_wp (I := fun n fr M' => ∃ (k : Nat) (es : ME) (c : Nat), n + k = os.length ∧ M'.wf ∧ M'.get mp = some (.map es c) ∧ MapIs (.leaf .int) intKey es (cF (allRefs (os.take k))) ∧ But (fun p => p = mp) M3 M' ∧
    fr.get (.i .h) = some (.ptr q 0) ∧ fr.get (.i (.o .h)) = some (.map mp) ∧ fr.get (.i (.o (.o (.o .h)))) = some gv ∧ fr.get (.o (.i (.o (.o .h)))) = some (.int 3 os.length) ∧ fr.get (.i (.i (.o (.o .h)))) = some (.int 3 k)) (n := os.length) ?_ ?_
  · exact ⟨0, .nil, 0, rfl, w3, y3, MapIs.nil.congr cF_nil, But.refl _ _, rfl, rfl, rfl, rfl, rfl⟩
  · rintro n fr M' ⟨k, es, c, i0, i1, i2, i3, i4, f1, f2, f3, f4, f5⟩
    have x4 := i4.get _ _ nq x3
    cases n with
    | zero =>
      have e : k = os.length := by omega
      subst e
      have g : decide (((os.length : Nat) : Int) < (os.length : Int)) = false := by simp only [decide_eq_false_iff_not]; omega
      have hmk := makeInts M' (n := os.length) (by simp only [most]; omega)
      simp only [go_sem, f1, f2, f3, f4, f5, g, x4, hlen, hmk]
      have w7 := i1.new (.cells (List.replicate os.length (.int 3 0)) false)
      have y7 : (M'.new (.cells (List.replicate os.length (.int 3 0)) false)).get M'.next = some (.cells (fillC os.length 0 (allRefs os)) false) := by rw [fillC_zero]; simp [Mem.new]
      have b7 := But.new (S := fun _ => False) i1 (.cells (List.replicate os.length (.int 3 0)) false)
      have z7 := b7.get _ _ id i2
      have hn7 : M.next.num ≤ M'.next.num := Nat.le_trans b12.next (Nat.le_trans b3.next i4.next)
      have hmp0 : M.next.num ≤ mp.num := by rw [← hmp]; exact b12.next
      have nq7 : mp ≠ M'.next := fun e => by have := i1 _ _ i2; rw [e] at this; omega
      have bA : But (fun _ => False) M (M'.new (.cells (List.replicate os.length (.int 3 0)) false)) := But.fresh hw (((((b12.trans b3).any _).trans (i4.mono fun p e => .inr (by rw [e]; exact hmp0))).trans (b7.any _)))
      generalize M'.new (.cells (List.replicate os.length (.int 3 0)) false) = M7 at *
      generalize hq7 : M'.next = q7 at *
      rw [List.take_length] at i3
      refine loop_wp (I := fun m fr' M'' => ∃ (k : Nat), m + k = os.length ∧ M''.wf ∧ M''.get q7 = some (.cells (fillC os.length k (allRefs os)) false) ∧ M''.get mp = some (.map es c) ∧ But (fun p => p = q7) M7 M'' ∧
        fr'.get (.i (.o .h)) = some (.map mp) ∧ fr'.get (.o (.i (.o .h))) = some (.slice q7 0 os.length os.length) ∧ fr'.get (.o (.i (.o (.i (.o .h))))) = some (.int 3 os.length) ∧ fr'.get (.i (.i (.o (.i (.o .h))))) = some (.int 3 k)) (n := os.length) ?_ ?_
      · exact ⟨0, rfl, w7, y7, z7, But.refl _ _, by simp [Tr.get_set, f2], by simp [Tr.get_set], by simp [Tr.get_set], by simp [Tr.get_set]⟩
      · rintro m fr' M'' ⟨k, j0, j1, j2, j3, j4, k1, k2, k3, k4⟩
        cases m with
        | zero =>
          have e : k = os.length := by omega
          subst e
          have g2 : decide (((os.length : Nat) : Int) < (os.length : Int)) = false := by simp only [decide_eq_false_iff_not]; omega
          simp only [go_sem, k1, k2, k3, k4, g2]
          refine ⟨⟨_, rfl, SlIs.made (X := IntL ((List.range os.length).map fun (i : Nat) => cntI ((i : Int) + 1) (allRefs os))) (by rw [j2]) (fillC_full _ _) (fun y hy => ?_) (by simp [IntL])⟩, But.fresh hw ((bA.any _).trans (j4.mono fun p e => .inr (by rw [e]; exact hn7)))⟩
          simp [IntL] at hy; obtain ⟨z, _, rfl⟩ := hy; rfl
        | succ m =>
          have hk : k < os.length := by omega
          have g2 : decide ((k : Int) < (os.length : Int)) = true := by simp only [decide_eq_true_eq]; omega
          have e1 : IntKind.i64.wrap ((k : Int) + 1) = (k : Int) + 1 := wrap64 (by omega) (by omega)
          have e2 : ((k : Int) + 1) = ((k + 1 : Nat) : Int) := by omega
          have hst := fillC_store j2 hk
          rcases cF_find i3 ((k : Int) + 1) with ⟨q1, q2⟩ | q1
          · rw [q2] at hst
            simp only [go_sem, k1, k2, k3, k4, g2, e1, j3, q1, hk, hst]
            refine ⟨m, by omega, k + 1, by omega, j1.put j2 _, by simp [Mem.put], (by simp [Mem.put, nq7, j3]), j4.trans (But.put (S := fun p => p = q7) (p := q7) _ rfl _), by simp [Tr.get_set, k1], by simp [Tr.get_set, k2], by simp [Tr.get_set, k3], by simp [Tr.get_set]⟩
          · simp only [go_sem, k1, k2, k3, k4, g2, e1, j3, q1, hk, hst]
            refine ⟨m, by omega, k + 1, by omega, j1.put j2 _, by simp [Mem.put], (by simp [Mem.put, nq7, j3]), j4.trans (But.put (S := fun p => p = q7) (p := q7) _ rfl _), by simp [Tr.get_set, k1], by simp [Tr.get_set, k2], by simp [Tr.get_set, k3], by simp [Tr.get_set]⟩
    | succ n =>
      have hk : k < os.length := by omega
      have g : decide ((k : Int) < (os.length : Int)) = true := by simp only [decide_eq_true_eq]; omega
      have hs' := SlIs.past hs2 hw2 i4 b3 (by rw [hmp]; exact Nat.le_refl _)
      obtain ⟨p, po, a1, a2⟩ := hs'.at_ (i := k) (by rw [grL_len]; exact hk)
      rw [grL_len] at a1
      rw [grL_at _ _ hk] at a2
      simp only [ObR] at a2
      have hsk := SlIs.past (hss2 k hk) hw2 i4 b3 (by rw [hmp]; exact Nat.le_refl _)
      have hskc := slIs_cell hsk
      have hlk := hsl _ (List.getElem_mem hk)
      have et : allRefs (os.take (k + 1)) = allRefs (os.take k) ++ refsL os[k].slots := by rw [List.take_succ_eq_append_getElem hk, allRefs_snoc]
      generalize os[k] = o at *
      have b5 := But.fill i1 (.cells [.int 3 0, .int 3 0, .nilslice, .str 0 0, .int 3 0] false) (.cells [.int 3 o.kind, .int 3 o.count, sv k, .str o.tl o.tn, .int 3 o.mark] false)
      have x5 : ((M'.new (.cells [.int 3 0, .int 3 0, .nilslice, .str 0 0, .int 3 0] false)).put M'.next (.cells [.int 3 o.kind, .int 3 o.count, sv k, .str o.tl o.tn, .int 3 o.mark] false)).get M'.next = some (.cells [.int 3 o.kind, .int 3 o.count, sv k, .str o.tl o.tn, .int 3 o.mark] false) := by simp [Mem.put]
      simp only [go_sem, f1, f2, f3, f4, f5, g, hk, a1, a2, hskc]
      refine (refs_x T h30 (hsk.old b5.old) hlk).use ?_
      rintro r M6 hw6 ⟨⟨rv, rfl, hrv⟩, b6⟩
      have hrl := hrv.len
      rw [intL_len] at hrl
      have hrn := refsL_len o.slots
      have z1 := (b5.trans b6).get _ _ id i2
      have z5 := b6.get _ _ id x5
      have e1 : IntKind.i64.wrap ((k : Int) + 1) = ((k + 1 : Nat) : Int) := by rw [wrap64 (by omega) (by omega)]; omega
      simp only [go_sem, z5, hrl]
      refine loop_wp (I := fun m fr' M'' => ∃ (j : Nat) (es' : ME) (c' : Nat), m + j = (refsL o.slots).length ∧ M''.wf ∧ M''.get mp = some (.map es' c') ∧ MapIs (.leaf .int) intKey es' (cF (allRefs (os.take k) ++ (refsL o.slots).take j)) ∧ But (fun p => p = mp) M6 M'' ∧
        fr'.get (.i .h) = some (.ptr q 0) ∧ fr'.get (.i (.o .h)) = some (.map mp) ∧ fr'.get (.i (.o (.o (.o .h)))) = some gv ∧ fr'.get (.o (.i (.o (.o .h)))) = some (.int 3 os.length) ∧ fr'.get (.i (.i (.o (.o .h)))) = some (.int 3 k) ∧
        fr'.get (.i (.o (.o (.i .h)))) = some rv ∧ fr'.get (.o (.i (.o (.i .h)))) = some (.int 3 (refsL o.slots).length) ∧ fr'.get (.i (.i (.o (.i .h)))) = some (.int 3 j)) (n := (refsL o.slots).length) ?_ ?_
      · exact ⟨0, es, c, rfl, hw6, z1, by simpa using i3, But.refl _ _, by simp [Tr.get_set, f1], by simp [Tr.get_set, f2], by simp [Tr.get_set, f3], by simp [Tr.get_set, f4], by simp [Tr.get_set, f5], by simp [Tr.get_set], by simp [Tr.get_set], by simp [Tr.get_set]⟩
      · rintro m fr' M'' ⟨j, es', c', j0, j1, j2, j3, j4, k1, k2, k3, k4, k5, k6, k7, k8⟩
        cases m with
        | zero =>
          have e : j = (refsL o.slots).length := by omega
          subst e
          have g2 : decide ((((refsL o.slots).length : Nat) : Int) < ((refsL o.slots).length : Int)) = false := by simp only [decide_eq_false_iff_not]; omega
          simp only [go_sem, k1, k2, k3, k4, k5, k6, k7, k8, g2, e1]
          rw [List.take_length] at j3
          exact ⟨n, by omega, k + 1, es', c', by omega, j1, j2, by rw [et]; exact j3, (i4.trans ((b5.trans b6).any _)).trans j4, by simp [Tr.get_set, k1], by simp [Tr.get_set, k2], by simp [Tr.get_set, k3], by simp [Tr.get_set, k4], by simp [Tr.get_set]⟩
        | succ m =>
          have hj : j < (refsL o.slots).length := by omega
          have g2 : decide ((j : Int) < ((refsL o.slots).length : Int)) = true := by simp only [decide_eq_true_eq]; omega
          obtain ⟨p6, po6, n6, c1, c2, c3⟩ := int_at hrv hj
          have np : p6 ≠ mp := fun e => by rw [e, z1] at c3; simp [MB.cell] at c3
          have c3' : MB.cell (M''.get p6) (po6 + j * 1) = some (.int 3 (refsL o.slots)[j]) := by
            cases hb : M6.get p6 with
            | none => rw [hb] at c3; cases c3
            | some b => rw [j4.get p6 b np hb, ← hb]; exact c3
          have et2 : (refsL o.slots).take (j + 1) = (refsL o.slots).take j ++ [(refsL o.slots)[j]] := List.take_succ_eq_append_getElem hj
          have hle : (allRefs (os.take k) ++ (refsL o.slots).take j).length ≤ (allRefs os).length := by
            have e : allRefs os = allRefs (os.take (k + 1)) ++ allRefs (os.drop (k + 1)) := by
              have h := congrArg allRefs (List.take_append_drop (k + 1) os)
              rw [← h]
              simp only [allRefs, List.flatMap_append]
            rw [e, et]
            simp only [List.length_append, List.length_take]
            omega
          have hc0 := cntI_nonneg (refsL o.slots)[j] (allRefs (os.take k) ++ (refsL o.slots).take j)
          have hc1 := cntI_le (refsL o.slots)[j] (allRefs (os.take k) ++ (refsL o.slots).take j)
          generalize (refsL o.slots)[j] = x at *
          generalize hL : allRefs (os.take k) ++ (refsL o.slots).take j = L at *
          obtain ⟨es2, fr2, p1, p2⟩ := j3.put (goodInt 3) (a := .int 3 x) (v := .int 3 (cntI x L + 1)) ⟨_, rfl⟩ c'
          have p3 := p2.congr (cF_snoc L x)
          have e5 : IntKind.i64.wrap (cntI x L + 1) = cntI x L + 1 := wrap64 (by omega) (by omega)
          have e6 : IntKind.i64.wrap ((j : Int) + 1) = ((j + 1 : Nat) : Int) := by rw [wrap64 (by omega) (by omega)]; omega
          have eL : allRefs (os.take k) ++ (refsL o.slots).take (j + 1) = L ++ [x] := by rw [et2, ← List.append_assoc, hL]
          have bm : But (fun p => p = mp) M6 (M''.put mp (.map es2 (if fr2 = true then c' + 1 else c'))) := j4.trans (But.put (S := fun p => p = mp) (p := mp) _ rfl _)
          rcases cF_find j3 x with ⟨q1, q2⟩ | q1
          · have e7 : cntI x L + 1 = 1 := by omega
            rw [e7] at p1
            have e8 : IntKind.i64.wrap 1 = 1 := rfl
            simp only [go_sem, k1, k2, k3, k4, k5, k6, k7, k8, g2, c1, c2, c3', j2, q1, e8, p1, e6]
            exact ⟨m, by omega, j + 1, es2, if fr2 = true then c' + 1 else c', by omega, j1.put j2 _, by simp [Mem.put], by rw [eL]; exact p3, bm, by simp [Tr.get_set, k1], by simp [Tr.get_set, k2], by simp [Tr.get_set, k3], by simp [Tr.get_set, k4], by simp [Tr.get_set, k5], by simp [Tr.get_set, k6], by simp [Tr.get_set, k7], by simp [Tr.get_set]⟩
          · simp only [go_sem, k1, k2, k3, k4, k5, k6, k7, k8, g2, c1, c2, c3', j2, q1, e5, p1, e6]
            exact ⟨m, by omega, j + 1, es2, if fr2 = true then c' + 1 else c', by omega, j1.put j2 _, by simp [Mem.put], by rw [eL]; exact p3, bm, by simp [Tr.get_set, k1], by simp [Tr.get_set, k2], by simp [Tr.get_set, k3], by simp [Tr.get_set, k4], by simp [Tr.get_set, k5], by simp [Tr.get_set, k6], by simp [Tr.get_set, k7], by simp [Tr.get_set]⟩
end Go.Proofs.Ythpnhdopheofcaa
end
section
namespace Go.Proofs.Ythpnhdopheofcaa
open Go.Dx
variable {tbl : Nat → Option CFunc}
set_option maxHeartbeats 4000000 in
theorem exact_x (T : SkT tbl) (F : GrT tbl) (h30 : tbl 30 = some cf30) (h108 : tbl 108 = some cf108) (h55 : tbl 55 = some cf55) {M : Mem} {gv mv : AV} {os : List Ob} {ml : List Vl} (hg : GrIs M gv os) (hm : SlIs M mv 2 (VlL ml)) (hl : os.length < 2 ^ 20) (hf : ∀ o ∈ os, ObFine os o) (hr : (allRefs os).length < 2 ^ 40) (hsl : ∀ o ∈ os, o.slots.length ≤ 2 ^ 30) (hml : ml.length ≤ 2 ^ 30)
    (hx : ∀ i (hi : i < os.length), os[i].kind ≠ 0 → os[i].count = cntI ((i : Int) + 1) (allRefs os) + cntI ((i : Int) + 1) (refsL ml)) :
    CallW tbl 55 (.cons (.agg (.cons gv .nil)) (.cons mv .nil)) M fun r M' => r = .ret .nilslice ∧ But (fun _ => False) M M' := by
  refine CallW.wf fun hw => ?_
  have hgc := slIs_cell hg.choose_spec.1
  refine CallW.intro h55 rfl (fr := .nod (.val .leaf (.agg (.cons gv .nil)) .leaf) (.val .leaf mv .leaf)) rfl ?_
  have b1 := But.new (S := fun _ => False) hw (.cells [gv] false)
  have w1 := hw.new (.cells [gv] false)
  have x1 : (M.new (.cells [gv] false)).get M.next = some (.cells [gv] false) := by simp only [go_sem]
  have n1 : (M.new (.cells [gv] false)).next = M.next.succ := rfl
  simp only [go_sem, cf55, hgc]
  generalize hM1 : M.new (.cells [gv] false) = M1 at *
  have b2 := But.new (S := fun _ => False) w1 (.map .nil 0)
  have w2 := w1.new (.map .nil 0)
  have x2 := b2.get _ _ id x1
  have y2 : (M1.new (.map .nil 0)).get M1.next = some (.map .nil 0) := by simp [Mem.new]
  have b12 := b1.trans b2
  have nq : M.next ≠ M1.next := fun e => by have := w1 _ _ x1; rw [e] at this; omega
  refine (refs_x T h30 (hm.old b12.old) hml).use ?_
  rintro r M3 w3 ⟨⟨rv, rfl, hrv⟩, b3⟩
  have x3 := b3.get _ _ id x2
  have y3 := b3.get _ _ id y2
  have hrl := hrv.len
  rw [intL_len] at hrl
  have hrn := refsL_len ml
  have b13 := b12.trans b3
  have hg3 := hg.old b13
  have hmp0 : M.next.num ≤ M1.next.num := b1.next
  rw [n1] at y3 nq hmp0
  generalize hq : M.next = q at *
  generalize hmp : q.succ = mp at *
  simp only [go_sem, hrl]
  refine loop_wp (I := fun m fr' M'' => ∃ (j : Nat) (es' : ME) (c' : Nat), m + j = (refsL ml).length ∧ M''.wf ∧ M''.get mp = some (.map es' c') ∧ MapIs (.leaf .int) intKey es' (cF ((refsL ml).take j)) ∧ But (fun p => p = mp) M3 M'' ∧
    fr'.get (.o (.o .h)) = some (.ptr q 0) ∧ fr'.get (.i (.i .h)) = some (.map mp) ∧ fr'.get (.o (.i .h)) = some .nilslice ∧ 
    fr'.get (.o (.o (.o (.o .h)))) = some rv ∧ fr'.get (.i (.o (.o (.o .h)))) = some (.int 3 (refsL ml).length) ∧ fr'.get (.o (.i (.o (.o .h)))) = some (.int 3 j)) (n := (refsL ml).length) ?_ ?_
  · exact ⟨0, .nil, 0, rfl, w3, y3, MapIs.nil.congr (by simpa using cF_nil), But.refl _ _, rfl, rfl, rfl, rfl, rfl, rfl⟩
  · rintro m fr' M'' ⟨j, es', c', j0, j1, j2, j3, j4, k1, k2, k3, k4, k5, k6⟩
    cases m with
    | zero =>
      have e : j = (refsL ml).length := by omega
      subst e
      have g2 : decide ((((refsL ml).length : Nat) : Int) < ((refsL ml).length : Int)) = false := by simp only [decide_eq_false_iff_not]; omega
      have x4 := j4.get _ _ nq x3
      rw [List.take_length] at j3
      have bA : But (fun _ => False) M M'' := But.fresh hw ((b13.any _).trans (j4.mono fun p e => .inr (by rw [e, hq]; exact hmp0)))
      simp only [go_sem, k1, k2, k3, k4, k5, k6, g2, x4]
      refine (into_x T F h30 h108 (hg.old bA) hl hf hr hsl).use ?_
      rintro r M5 w5 ⟨⟨iv, rfl, hiv⟩, b5⟩
      have hil := hiv.len
      simp only [IntL, List.length_map, List.length_range] at hil
      have x5 := b5.get _ _ id x4
      have y5 := b5.get _ _ id j2
      have hg5 := (hg.old bA).old b5
      obtain ⟨sv, hs5, hss5⟩ := hg5
      simp only [go_sem, hil]
      refine loop_wp (I := fun m fr2 M6 => ∃ k : Nat, m + k = os.length ∧ M6.wf ∧ But (fun _ => False) M5 M6 ∧ fr2.get (.o (.i (.o .h))) = some .nilslice ∧ fr2.get (.o (.o .h)) = some (.ptr q 0) ∧ fr2.get (.i (.i .h)) = some (.map mp) ∧ fr2.get (.o (.o (.i (.i .h)))) = some iv ∧ fr2.get (.i (.o (.i (.i .h)))) = some (.int 3 os.length) ∧ fr2.get (.o (.i (.i (.i .h)))) = some (.int 3 k)) (n := os.length) ?_ ?_
      · exact ⟨0, rfl, w5, But.refl _ _, by simp [Tr.get_set], by simp [Tr.get_set, k1], by simp [Tr.get_set, k2], by simp [Tr.get_set], by simp [Tr.get_set], by simp [Tr.get_set]⟩
      · rintro m fr2 M6 ⟨k, h0, w6, b6, f1, f2, f3, f4, f5, f6⟩
        have x6 := b6.get _ _ id x5
        have y6 := b6.get _ _ id y5
        cases m with
        | zero =>
          have e : k = os.length := by omega
          subst e
          have g3 : decide (((os.length : Nat) : Int) < (os.length : Int)) = false := by simp only [decide_eq_false_iff_not]; omega
          simp only [go_sem, f1, f2, f3, f4, f5, f6, g3]
          exact bA.trans (b5.trans b6)
        | succ m =>
          have hk : k < os.length := by omega
          have g3 : decide ((k : Int) < (os.length : Int)) = true := by simp only [decide_eq_true_eq]; omega
          have e6 : IntKind.i64.wrap ((k : Int) + 1) = (k : Int) + 1 := wrap64 (by omega) (by omega)
          obtain ⟨pi, oi, ni, i1, i2, i3⟩ := int_at (hiv.old b6.old) (i := k) (by simpa using hk)
          simp only [List.getElem_map, List.getElem_range] at i3
          obtain ⟨p, po, a1, a2⟩ := (hs5.old b6.old).at_ (i := k) (by rw [grL_len]; exact hk)
          rw [grL_len] at a1
          rw [grL_at _ _ hk] at a2
          simp only [ObR] at a2
          have hskc := slIs_cell (hss5 k hk)
          have hxk := hx k hk
          generalize os[k] = o at *
          have b7 := But.fill w6 (.cells [.int 3 0, .int 3 0, .nilslice, .str 0 0, .int 3 0] false) (.cells [.int 3 o.kind, .int 3 o.count, sv k, .str o.tl o.tn, .int 3 o.mark] false)
          have w7 := w6.fill (.cells [.int 3 0, .int 3 0, .nilslice, .str 0 0, .int 3 0] false) (.cells [.int 3 o.kind, .int 3 o.count, sv k, .str o.tl o.tn, .int 3 o.mark] false)
          have y7 := b7.get _ _ id y6
          have nm : (mp = M6.next) = False := w6.ne y6
          have hA0 := cntI_nonneg ((k : Int) + 1) (allRefs os)
          have hA1 := cntI_le ((k : Int) + 1) (allRefs os)
          have hB0 := cntI_nonneg ((k : Int) + 1) (refsL ml)
          have hB1 := cntI_le ((k : Int) + 1) (refsL ml)
          by_cases hz : o.kind = 0
          · have g4 : (o.kind != 0) = false := by simp [hz]
            simp only [go_sem, f1, f2, f3, f4, f5, f6, g3, x6, i1, i2, i3, a1, a2, hk, hskc, g4, e6]
            exact ⟨m, by omega, k + 1, by omega, w7, b6.trans b7, by simp [Tr.get_set, f1], by simp [Tr.get_set, f2], by simp [Tr.get_set, f3], by simp [Tr.get_set, f4], by simp [Tr.get_set, f5], by simp [Tr.get_set]⟩
          · have g4 : (o.kind != 0) = true := by simp [hz]
            have hc := hxk hz
            rcases cF_find j3 ((k : Int) + 1) with ⟨q1, q2⟩ | q1
            · have e8 : IntKind.i64.wrap (cntI ((k : Int) + 1) (allRefs os) + 0) = cntI ((k : Int) + 1) (allRefs os) := by rw [Int.add_zero]; exact wrap64 (by omega) (by omega)
              have g5 : (o.count != cntI ((k : Int) + 1) (allRefs os)) = false := by simp [hc, q2]
              simp only [go_sem, f1, f2, f3, f4, f5, f6, g3, x6, i1, i2, i3, a1, a2, hk, hskc, g4, nm, y6, e6, q1, e8, g5]
              exact ⟨m, by omega, k + 1, by omega, w7, b6.trans b7, by simp [Tr.get_set, f1], by simp [Tr.get_set, f2], by simp [Tr.get_set, f3], by simp [Tr.get_set, f4], by simp [Tr.get_set, f5], by simp [Tr.get_set]⟩
            · have e8 : IntKind.i64.wrap (cntI ((k : Int) + 1) (allRefs os) + cntI ((k : Int) + 1) (refsL ml)) = cntI ((k : Int) + 1) (allRefs os) + cntI ((k : Int) + 1) (refsL ml) := wrap64 (by omega) (by omega)
              have g5 : (o.count != cntI ((k : Int) + 1) (allRefs os) + cntI ((k : Int) + 1) (refsL ml)) = false := by simp [hc]
              simp only [go_sem, f1, f2, f3, f4, f5, f6, g3, x6, i1, i2, i3, a1, a2, hk, hskc, g4, nm, y6, e6, q1, e8, g5]
              exact ⟨m, by omega, k + 1, by omega, w7, b6.trans b7, by simp [Tr.get_set, f1], by simp [Tr.get_set, f2], by simp [Tr.get_set, f3], by simp [Tr.get_set, f4], by simp [Tr.get_set, f5], by simp [Tr.get_set]⟩
    | succ m =>
      have hj : j < (refsL ml).length := by omega
      have g2 : decide ((j : Int) < ((refsL ml).length : Int)) = true := by simp only [decide_eq_true_eq]; omega
      obtain ⟨p6, po6, n6, c1, c2, c3⟩ := int_at hrv hj
      have np : p6 ≠ mp := fun e => by rw [e, y3] at c3; simp [MB.cell] at c3
      have c3' : MB.cell (M''.get p6) (po6 + j * 1) = some (.int 3 (refsL ml)[j]) := by
        cases hb : M3.get p6 with
        | none => rw [hb] at c3; cases c3
        | some b => rw [j4.get p6 b np hb, ← hb]; exact c3
      have et2 : (refsL ml).take (j + 1) = (refsL ml).take j ++ [(refsL ml)[j]] := List.take_succ_eq_append_getElem hj
      have hle : ((refsL ml).take j).length ≤ 2 ^ 30 := by rw [List.length_take]; omega
      have hc0 := cntI_nonneg (refsL ml)[j] ((refsL ml).take j)
      have hc1 := cntI_le (refsL ml)[j] ((refsL ml).take j)
      generalize (refsL ml)[j] = x at *
      generalize hL : (refsL ml).take j = L at *
      obtain ⟨es2, fr2, p1, p2⟩ := j3.put (goodInt 3) (a := .int 3 x) (v := .int 3 (cntI x L + 1)) ⟨_, rfl⟩ c'
      have p3 := p2.congr (cF_snoc L x)
      have e5 : IntKind.i64.wrap (cntI x L + 1) = cntI x L + 1 := wrap64 (by omega) (by omega)
      have e6 : IntKind.i64.wrap ((j : Int) + 1) = ((j + 1 : Nat) : Int) := by rw [wrap64 (by omega) (by omega)]; omega
      have bm : But (fun p => p = mp) M3 (M''.put mp (.map es2 (if fr2 = true then c' + 1 else c'))) := j4.trans (But.put (S := fun p => p = mp) (p := mp) _ rfl _)
      rcases cF_find j3 x with ⟨q1, q2⟩ | q1
      · have e7 : cntI x L + 1 = 1 := by omega
        rw [e7] at p1
        have e8 : IntKind.i64.wrap 1 = 1 := rfl
        simp only [go_sem, k1, k2, k3, k4, k5, k6, g2, c1, c2, c3', j2, q1, e8, p1, e6]
        exact ⟨m, by omega, j + 1, es2, if fr2 = true then c' + 1 else c', by omega, j1.put j2 _, by simp [Mem.put], by rw [et2]; exact p3, bm, by simp [Tr.get_set, k1], by simp [Tr.get_set, k2], by simp [Tr.get_set, k3], by simp [Tr.get_set, k4], by simp [Tr.get_set, k5], by simp [Tr.get_set]⟩
      · simp only [go_sem, k1, k2, k3, k4, k5, k6, g2, c1, c2, c3', j2, q1, e5, p1, e6]
        exact ⟨m, by omega, j + 1, es2, if fr2 = true then c' + 1 else c', by omega, j1.put j2 _, by simp [Mem.put], by rw [et2]; exact p3, bm, by simp [Tr.get_set, k1], by simp [Tr.get_set, k2], by simp [Tr.get_set, k3], by simp [Tr.get_set, k4], by simp [Tr.get_set, k5], by simp [Tr.get_set]⟩
end Go.Proofs.Ythpnhdopheofcaa
end
section
namespace Go.Proofs.Ythpnhdopheofcaa
open Go.Dx
variable {tbl : Nat → Option CFunc}
theorem rem_nat {a : Int} {k : Int} {n : Nat} (h0 : 0 ≤ a) (hk : k ≠ 0) (hn : a % k = (n : Int)) : arithI .rem 4 a k = some (.int 4 (n : Int)) := by
  show (if k = 0 then none else some (AV.int 4 (a.tmod k))) = _
  rw [if_neg hk, Int.tmod_eq_emod_of_nonneg h0, hn]
structure WX (M0 M : Mem) (sp hp : Pos) (P : Pos → Prop) (calls : List Fr) (s h : List Vl) : Prop where
  wf : M.wf
  st : ∃ G, StackIs M sp P 2 calls G ∧ SX G s h
  but : But (fun p => ¬ P p) M0 M
  hp : HpOf M sp hp
theorem WX.quiet {M0 M M' : Mem} {sp hp : Pos} {P : Pos → Prop} {calls : List Fr} {s h : List Vl} (hx : WX M0 M sp hp P calls s h) (hw : M'.wf) (b : But (fun _ => False) M M') : WX M0 M' sp hp P calls s h := by
  obtain ⟨G, h1, h2⟩ := hx.st
  obtain ⟨co, cv, h3⟩ := hx.hp
  exact ⟨hw, ⟨G, h1.quiet b, h2⟩, hx.but.trans (b.any _), ⟨co, cv, b.get _ _ id h3⟩⟩
theorem WX.next {M0 M M' : Mem} {sp hp : Pos} {P : Pos → Prop} {calls calls' : List Fr} {s s' h h' : List Vl} (hx : WX M0 M sp hp P calls s h) (hw : M'.wf) (hs : ∃ G, StackIs M' sp P 2 calls' G ∧ SX G s' h') (b : But (fun p => ¬ P p) M M') (hh : ∀ hp, HpOf M sp hp → HpOf M' sp hp) : WX M0 M' sp hp P calls' s' h' :=
  ⟨hw, hs, hx.but.trans b, hh _ hx.hp⟩
theorem WX.nexts {M0 M M' : Mem} {sp hp : Pos} {P : Pos → Prop} {calls calls' : List Fr} {s s' h h' : List Vl} (hx : WX M0 M sp hp P calls s h) (hw : M'.wf) (hs : ∃ G, StackIs M' sp P 2 calls' G ∧ SX G s' h') (b : But (fun p => ¬ P p) M M') {cv : AV} (hh : M'.get sp = spC hp 2 cv) : WX M0 M' sp hp P calls' s' h' :=
  ⟨hw, hs, hx.but.trans b, ⟨_, _, hh⟩⟩
theorem WX.spc {M0 M : Mem} {sp hp : Pos} {P : Pos → Prop} {calls : List Fr} {s h : List Vl} (hx : WX M0 M sp hp P calls s h) : ∃ cv, M.get sp = spC hp 2 cv := by
  obtain ⟨G, ⟨own, Z, rfl, h1, h2, h3⟩, _⟩ := hx.st
  have e := hx.hp.same (But.refl _ _) h2.spc
  subst e
  exact ⟨_, h2.spc⟩
theorem value_x (T : SkT tbl) (h52 : tbl 52 = some cf52) (h16 : tbl 16 = some cf16) (h27 : tbl 27 = some cf27) {M0 M : Mem} {sp hp : Pos} {P : Pos → Prop} {calls : List Fr} {s h : List Vl} {n : Int} (hn : 0 ≤ n ∧ n < 256) (hx : WX M0 M sp hp P calls s h) (hl : s.length + h.length + 1 ≤ 2 ^ 30) :
    CallW tbl 52 (.cons (.ptr hp 0) (.cons (VlA fV) (.cons (VlA tV) (.cons (.int 4 n) .nil)))) M fun r M' => ∃ v, r = .ret (VlA v) ∧ okV v ∧ WX M0 M' sp hp P calls s (v :: h) ∧ But (fun p => ¬ P p) M M' := by
  refine CallW.wf fun hw => ?_
  obtain ⟨G, hS, hW⟩ := hx.st
  obtain ⟨cv, hz⟩ := hx.spc
  have nx : ∀ M : Mem, M.next.num < M.next.succ.num := fun M => by rw [Pos.num_succ]; omega
  refine CallW.intro h52 rfl (fr := .nod (.val (.val .leaf (VlA tV) .leaf) (.ptr hp 0) .leaf) (.val (.val .leaf (.int 4 n) .leaf) (VlA fV) .leaf)) rfl ?_
  have b1 := But.new (S := fun _ => False) hw (.cells [.int 3 fV.k, .int 3 fV.n] false)
  have w1 := hw.new (.cells [.int 3 fV.k, .int 3 fV.n] false)
  have x1 : (M.new (.cells [.int 3 fV.k, .int 3 fV.n] false)).get M.next = some (.cells [.int 3 fV.k, .int 3 fV.n] false) := by simp [Mem.new]
  have n1 : (M.new (.cells [.int 3 fV.k, .int 3 fV.n] false)).next = M.next.succ := rfl
  have hS1 := hS.wide b1 (q := M.next) (Nat.le_refl _) (nx M)
  have hz1 := b1.get _ _ id hz
  generalize hM1 : M.new (.cells [.int 3 fV.k, .int 3 fV.n] false) = M1 at *
  have b2 := But.new (S := fun _ => False) w1 (.cells [.int 3 tV.k, .int 3 tV.n] false)
  have w2 := w1.new (.cells [.int 3 tV.k, .int 3 tV.n] false)
  have x2 := b2.get _ _ id x1
  have y2 : (M1.new (.cells [.int 3 tV.k, .int 3 tV.n] false)).get M1.next = some (.cells [.int 3 tV.k, .int 3 tV.n] false) := by simp [Mem.new]
  have n2 : (M1.new (.cells [.int 3 tV.k, .int 3 tV.n] false)).next = M1.next.succ := rfl
  have hS2 := hS1.wide b2 (q := M1.next) (Nat.le_refl _) (nx M1)
  have hz2 := b2.get _ _ id hz1
  generalize hM2 : M1.new (.cells [.int 3 tV.k, .int 3 tV.n] false) = M2 at *
  have b3 := But.new (S := fun _ => False) w2 (.cells [.int 3 0, .int 3 0] false)
  have w3 := w2.new (.cells [.int 3 0, .int 3 0] false)
  have x3 := b3.get _ _ id x2
  have y3 := b3.get _ _ id y2
  have z3 : (M2.new (.cells [.int 3 0, .int 3 0] false)).get M2.next = some (.cells [.int 3 0, .int 3 0] false) := by simp [Mem.new]
  have hS3 := hS2.wide b3 (q := M2.next) (Nat.le_refl _) (nx M2)
  have hz3 := b3.get _ _ id hz2
  have n3 : (M2.new (.cells [.int 3 0, .int 3 0] false)).next = M2.next.succ := rfl
  generalize hM3 : M2.new (.cells [.int 3 0, .int 3 0] false) = M3 at *
  have hlt : ∀ p, P p → p.num < M.next.num := by
    obtain ⟨own, Z, _, hP, _⟩ := hS
    exact fun p hp => (hP p hp).2
  have hsp := hw _ _ hz
  have q2 : M.next.num ≤ M2.next.num := Nat.le_trans b1.next b2.next
  have fin : ∀ (v : Vl) (M4 : Mem), M4.wf → (∃ G', StackIs M4 sp (fun p => ((P p ∨ p = M.next) ∨ p = M1.next) ∨ p = M2.next) 2 calls G' ∧ SX G' s (v :: h)) → But (fun p => ¬ (((P p ∨ p = M.next) ∨ p = M1.next) ∨ p = M2.next)) M3 M4 → M4.get sp = spC hp 2 cv → ∀ c, WX M0 (M4.put M2.next c) sp hp P calls s (v :: h) ∧ But (fun p => ¬ P p) M (M4.put M2.next c) := by
    intro v M4 w4 ⟨G4, hS4, hW4⟩ b4 hz4 c
    have z4 := b4.get _ _ (fun e => e (.inr rfl)) z3
    have bp : But (fun p => p = M2.next) M4 (M4.put M2.next c) := But.put (S := fun p => p = M2.next) (p := M2.next) _ rfl _
    have bb : But (fun p => ¬ P p) M (M4.put M2.next c) := (((b1.trans b2).trans b3).any _).trans ((b4.mono fun p e h => e (.inl (.inl (.inl h)))).trans (bp.mono fun p e h => by have := hlt p h; rw [e] at this; omega))
    have hS5 := (hS4.frame (bp.mono fun p e => .inr e)).less (Q := P) fun p hp => .inl (.inl (.inl hp))
    refine ⟨⟨w4.put z4 _, ⟨G4, hS5, hW4⟩, hx.but.trans bb, ⟨2, cv, ?_⟩⟩, bb⟩
    simp only [Mem.put]
    rw [if_neg (fun e => by rw [e] at hsp; omega)]
    exact hz4
  have hk4 : n % 4 = ((0 : Nat) : Int) ∨ n % 4 = ((1 : Nat) : Int) ∨ n % 4 = ((2 : Nat) : Int) ∨ n % 4 = ((3 : Nat) : Int) := by omega
  have e1 : (kindOf 3).wrap n = n := wrap64 (by omega) (by omega)
  rcases hk4 with e | e | e | e
  · have r4 : arithI .rem 4 n 4 = some (.int 4 0) := rem_nat (k := 4) hn.1 (by decide) e
    simp only [go_sem, cf52, VlA, r4, hM1, hM2, hM3, x3, y3, z3]
    refine (hkeep_x T (v := fV) hS3 hz3 hW (.inl rfl) hl).use ?_
    rintro r M4 w4 ⟨rfl, st4, b4, hz4⟩
    have x4 := b4.get _ _ (fun e => e (.inl (.inl (.inr rfl)))) x3
    have z4 := b4.get _ _ (fun e => e (.inr rfl)) z3
    simp only [go_sem, x4, z4]
    exact ⟨fV, rfl, .inl rfl, fin fV M4 w4 st4 b4 hz4 _⟩
  · have r4 : arithI .rem 4 n 4 = some (.int 4 1) := rem_nat (k := 4) hn.1 (by decide) e
    simp only [go_sem, cf52, VlA, r4, hM1, hM2, hM3, x3, y3, z3]
    refine (hkeep_x T (v := tV) hS3 hz3 hW (.inr rfl) hl).use ?_
    rintro r M4 w4 ⟨rfl, st4, b4, hz4⟩
    have y4 := b4.get _ _ (fun e => e (.inl (.inr rfl))) y3
    have z4 := b4.get _ _ (fun e => e (.inr rfl)) z3
    simp only [go_sem, y4, z4]
    exact ⟨tV, rfl, .inr (.inl rfl), fin tV M4 w4 st4 b4 hz4 _⟩
  · have r4 : arithI .rem 4 n 4 = some (.int 4 2) := rem_nat (k := 4) hn.1 (by decide) e
    simp only [go_sem, cf52, VlA, r4, hM1, hM2, hM3, x3, y3, z3]
    refine (null_spec h27).use ?_
    rintro r M4 w4 ⟨rfl, b4⟩
    have z4 := b4.get _ _ id z3
    simp only [go_sem, VlA, z4]
    exact ⟨nilV, rfl, .inr (.inr nil_plain), fin nilV M4 w4 ⟨G, hS3.quiet b4, hW.more nil_plain (by omega)⟩ (b4.any _) (b4.get _ _ id hz3) _⟩
  · have r4 : arithI .rem 4 n 4 = some (.int 4 3) := rem_nat (k := 4) hn.1 (by decide) e
    simp only [go_sem, cf52, VlA, r4, hM1, hM2, hM3, x3, y3, z3, e1]
    refine (number_spec h16 _).use ?_
    rintro r M4 w4 ⟨rfl, b4⟩
    have z4 := b4.get _ _ id z3
    simp only [go_sem, VlA, numV, z4]
    exact ⟨numV n, rfl, .inr (.inr (num_plain n)), fin (numV n) M4 w4 ⟨G, hS3.quiet b4, hW.more (num_plain n) (by omega)⟩ (b4.any _) (b4.get _ _ id hz3) _⟩
end Go.Proofs.Ythpnhdopheofcaa
end
section
namespace Go.Proofs.Ythpnhdopheofcaa
open Go.Dx
variable {tbl : Nat → Option CFunc}
structure BX (G : Hp) : Prop where
  o1 : G.objs 1 = some ⟨7, 2, [], 0, 0, 0⟩
  no : ∀ n, n ≠ 1 → G.objs n = none
  fr : G.free = []
  nx : G.next = 2
  bf : G.buffer = []
  tk : ∀ n, G.taken n = true ↔ n = 1
structure NX (G : Hp) : Prop where
  o1 : G.objs 1 = some ⟨7, 2, [], 0, 0, 0⟩
  o2 : G.objs 2 = some ⟨8, 1, [fV], 0, 0, 0⟩
  no : ∀ n, n ≠ 1 → n ≠ 2 → G.objs n = none
  fr : G.free = []
  nx : G.next = 3
  bf : G.buffer = []
  tk : ∀ n, G.taken n = true ↔ (n = 2 ∨ n = 1)
theorem snew_x (T : SkT tbl) {M : Mem} {hp : Pos} {P : Pos → Prop} {G : Hp} (hH : HeapIs M hp P G) (hX : BX G) :
    CallW tbl 31 (.cons (.ptr hp 0) (.cons (VlA fV) .nil)) M fun r M' => ∃ sp, r = .ret (.tuple (.cons (.ptr sp 0) (.cons (.int 3 0) .nil))) ∧ (∃ G', StackIs M' sp P 2 [⟨0, 0, []⟩] G' ∧ NX G') ∧ But (fun p => ¬ P p) M M' ∧ ∃ cv, M'.get sp = spC hp 2 cv := by
  refine CallW.wf fun hw => ?_
  obtain ⟨h1, h0', hf, hn, hb, htk⟩ := hX
  have h0 : G.objs 0 = none := h0' 0 (by decide)
  refine CallW.intro T.h31 rfl (fr := .nod (.val .leaf (.ptr hp 0) .leaf) (.val .leaf (VlA fV) .leaf)) rfl ?_
  simp only [go_sem, cf31, VlA, fV]
  have b0 := But.new (S := fun _ => False) hw (.cells [.int 3 7, .int 3 1] false)
  have hH0 := hH.more hw (.cells [.int 3 7, .int 3 1] false)
  have x0 : (M.new (.cells [.int 3 7, .int 3 1] false)).get M.next = some (.cells [.int 3 7, .int 3 1] false) := by simp only [go_sem]
  refine (suspect_none T.h78 T.h75 hH0 h0).use ?_
  rintro r M1 hw1 ⟨rfl, rfl⟩
  simp only [go_sem]
  refine (obj_some T.h25 T.h75 T.h76 hH0 h1 (by simp [most])).use ?_
  rintro r M2 hw2 ⟨sv, rfl, hfr, b2⟩
  have hH2 := hH0.quiet b2
  have x2 := b2.get _ _ id x0
  simp only [go_sem, ObA]
  refine (make_new T.h48 T.h99 T.h130 (k := 8) hH2 (by omega) hf (by rw [hn]; omega)).use ?_
  rintro r M3 hw3 ⟨rfl, hH3, b3⟩
  have x3 := b3.get _ _ (fun e => e (.inr rfl)) x2
  have ne3 := hw3.ne x3
  have b4 := But.fill hw3 (.cells [.int 3 0, .int 3 0] false) (.cells [.int 3 8, .int 3 2] false)
  have w4 := hw3.fill (.cells [.int 3 0, .int 3 0] false) (.cells [.int 3 8, .int 3 2] false)
  have hH4 := hH3.wide b4 (q := M3.next) (Nat.le_refl _) (by show M3.next.num < M3.next.succ.num; rw [Pos.num_succ]; omega)
  rw [hn] at hH4
  have k1 : ({ takeG G with objs := upd G.objs 2 (some ⟨8, 1, [], 0, 0, 0⟩) } : Hp).objs 2 = some ⟨8, 1, [], 0, 0, 0⟩ := by simp [upd]
  have hth : thereV ({ takeG G with objs := upd G.objs 2 (some ⟨8, 1, [], 0, 0, 0⟩) } : Hp) fV = true := by
    have e : ({ takeG G with objs := upd G.objs 2 (some ⟨8, 1, [], 0, 0, 0⟩) } : Hp).objs fV.n = some ⟨7, 2, [], 0, 0, 0⟩ := by simp [upd, fV, h1]
    have e' : upd G.objs 2 (some ⟨8, 1, [], 0, 0, 0⟩) fV.n = some ⟨7, 2, [], 0, 0, 0⟩ := e
    simp only [thereV, e']; decide
  simp only [go_sem, VlA, hn, ne3, x3]
  refine (push_ok T.h68 T.h75 T.h77 T.h81 T.h85 T.h115 T.h117 T.h143 (v := fV) hH4 k1 (by decide) hth (by decide)).use ?_
  rintro r M5 hw5 ⟨rfl, hH5, b5⟩
  have x5 : M5.get M3.next = some (.cells [.int 3 8, .int 3 2] false) := b5.get _ _ (fun e => e (.inr rfl)) (by simp [Mem.put])
  have ne5 := hw5.ne x5
  have ne6 : (M3.next = M5.next.succ) = False := eq_false fun e => by have := hw5 _ _ x5; rw [e, Pos.num_succ] at this; omega
  have ne7 : (M5.next = M5.next.succ) = False := eq_false fun e => by have := congrArg Pos.num e; rw [Pos.num_succ] at this; omega
  simp only [go_sem, make31', x5, ne5, ne6, ne7]
  obtain ⟨s6, b6⟩ := newStack (P := P) hw5 hH5 (fun p hp => .inl (.inl hp))
  have b35 := b5.mono (S' := fun p => ¬ P p) fun p hn hp => hn (.inl (.inl hp))
  have b33 := b3.mono (S' := fun p => ¬ P p) fun p hn hp => hn (.inl hp)
  refine ⟨by rw [Pos.num_succ, Pos.num_succ]; omega, M5.next, rfl, ⟨_, s6, ?_⟩, ((((b0.trans b2).any _).trans b33).trans (b4.any _)).trans (b35.trans (b6.any _)), .slice M5.next.succ 0 1 1, by rw [if_pos rfl]; rfl⟩
  have ht : takeN G = 2 := by simp [takeN, hf, hn]
  refine ⟨by simp [upd, h1], by simp [upd], fun n a b => by simp [upd, b, h0' n a], by simp [takeG, hf], by simp [takeG, hf, hn], by simp [takeG, hb], fun n => ?_⟩
  simp only [takeG, ht, upd]
  by_cases e : n = 2
  · simp [e]
  · simp [e, htk]
theorem begun_x (T : SkT tbl) (h : tbl 14 = some cf14) {M : Mem} {P : Pos → Prop} (hP : ∀ p, P p → p.num < M.next.num) :
    CallW tbl 14 .nil M fun r M' => ∃ hp sp, r = .ret (.tuple (.cons (.ptr hp 0) (.cons (.ptr sp 0) (.cons (VlA fV) .nil)))) ∧ (∃ G', StackIs M' sp P 2 [⟨0, 0, []⟩] G' ∧ NX G') ∧ But (fun p => ¬ P p) M M' ∧ ∃ cv, M'.get sp = spC hp 2 cv := by
  refine CallW.wf fun hw => ?_
  refine CallW.intro h rfl (fr := .leaf) rfl ?_
  simp only [go_sem, cf14]
  have b0 := But.new (S := fun _ => False) hw (.cells [.int 3 0, .int 3 0] false)
  have w0 := hw.new (.cells [.int 3 0, .int 3 0] false)
  have x0 : (M.new (.cells [.int 3 0, .int 3 0] false)).get M.next = some (.cells [.int 3 0, .int 3 0] false) := by simp only [go_sem]
  refine (heapnew_spec T.h40 T.h84 (P := fun p => P p ∨ p = M.next) (fun p hp => by
    have hn : (M.new (.cells [.int 3 0, .int 3 0] false)).next = M.next.succ := rfl
    rw [hn, Pos.num_succ]
    rcases hp with hp | rfl
    · have := hP p hp; omega
    · omega)).use ?_
  rintro r M1 hw1 ⟨hp, rfl, hH1, b1, hlt⟩
  have x1 := b1.get _ _ id x0
  simp only [go_sem]
  refine (make_new T.h48 T.h99 T.h130 (k := 7) hH1 (by omega) rfl (by decide)).use ?_
  have hG : G0.next = 1 := rfl
  rw [hG]
  rintro r M2 hw2 ⟨rfl, hH2, b2⟩
  have x2 := b2.get _ _ (fun e => e (.inr rfl)) x1
  have ne2 := hw2.ne x2
  simp only [go_sem, VlA]
  have b3 := But.fill hw2 (.cells [.int 3 0, .int 3 0] false) (.cells [.int 3 7, .int 3 1] false)
  have w3 := hw2.fill (.cells [.int 3 0, .int 3 0] false) (.cells [.int 3 7, .int 3 1] false)
  have hH3 := hH2.wide b3 (q := M2.next) (Nat.le_refl _) (by show M2.next.num < M2.next.succ.num; rw [Pos.num_succ]; omega)
  have x3 := b3.get _ _ id x2
  refine (keep_yes T.h18 T.h71 T.h77 T.h81 T.h85 T.h115 T.h117 T.h143 (v := fV) hH3 refV_f (o := ⟨7, 1, [], 0, 0, 0⟩) (by simp [upd, fV]) rfl (by decide) (by decide)).use ?_
  rintro r M4 hw4 ⟨rfl, hH4, b4⟩
  have x4 := b4.get _ _ (fun e => e (.inl (.inr rfl))) x3
  have y3 : ((M2.new (.cells [.int 3 0, .int 3 0] false)).put M2.next (.cells [.int 3 7, .int 3 1] false)).get M2.next = some (.cells [.int 3 7, .int 3 1] false) := by simp [Mem.put]
  have y4 := b4.get _ _ (fun e => e (.inr rfl)) y3
  simp only [go_sem, y4]
  refine (snew_x T hH4 ⟨by simp [upd, fV], fun n a => by simp [upd, fV, a, G0], by simp [takeG, G0], by simp [takeG, G0], by simp [takeG, G0], fun n => by simp [takeG, takeN, upd, G0]⟩).use ?_
  rintro r M5 hw5 ⟨sp, rfl, ⟨G5, hS5, hW5⟩, b5, cv, hz5⟩
  have x5 := b5.get _ _ (fun e => e (.inl (.inr rfl))) x4
  have y5 := b5.get _ _ (fun e => e (.inr rfl)) y4
  have nsp : ¬ (sp = M.next) := by
    obtain ⟨own, Z, rfl, k1, k2, k3⟩ := hS5
    intro e
    have e1 := k2.spo
    rw [e, (k1 M.next (.inl (.inr rfl))).1] at e1
    cases e1
  simp only [go_sem, y5, x5]
  have bp : But (fun p => p = M.next) M5 (M5.put M.next (.cells [.int 3 7, .int 3 1] false)) := But.put (S := fun p => p = M.next) (p := M.next) _ rfl _
  have hS6 := (hS5.frame (bp.mono fun p e => .inl (.inr e))).less (Q := P) fun p hp => .inl (.inl hp)
  have hmn : ∀ p, p = M.next → ¬ P p := fun p e hp => by have := hP p hp; rw [e] at this; omega
  have t1 := ((b0.trans b1).any (fun p => ¬ P p)).trans (b2.mono fun p hn hp => hn (.inl hp))
  have t2 := (t1.trans (b3.any _)).trans ((b4.trans b5).mono fun p hn hp => hn (.inl (.inl hp)))
  exact ⟨hp, sp, rfl, ⟨G5, hS6, hW5⟩, t2.trans (bp.mono hmn), cv, by rw [if_neg nsp]; exact hz5⟩
theorem smake_x (T : SkT tbl) {M : Mem} {sp hp : Pos} {cv : AV} {P : Pos → Prop} {calls : List Fr} {G : Hp} (hS : StackIs M sp P 2 calls G) (hz : M.get sp = spC hp 2 cv) (hX : NX G) :
    CallW tbl 48 (.cons (.ptr hp 0) (.cons (.int 3 6) (.cons (.str 0 0) .nil))) M fun r M' => r = .ret (VlA tV) ∧ (∃ G', StackIs M' sp P 2 calls G' ∧ SX G' [fV] []) ∧ But (fun p => ¬ P p) M M' ∧ M'.get sp = spC hp 2 cv := by
  obtain ⟨own, Z, rfl, rfl, rfl, hP, hB, hH⟩ := hS.open_ hz
  obtain ⟨h1, h2, h0, hf, hn, hb, htk⟩ := hX
  refine (make_new T.h48 T.h99 T.h130 (k := 6) hH (by omega) hf (by rw [hn]; omega)).mono ?_
  rintro r M' ⟨rfl, hH', b⟩
  obtain ⟨s1, s2⟩ := StackIs.heap hP hB hH' b
  refine ⟨by rw [hn]; rfl, ⟨_, s1, ?_⟩, s2, b.get _ _ (fun e => e (.inr (by rw [hB.spo]; simp))) hz⟩
  have ht : takeN G = 3 := by simp [takeN, hf, hn]
  refine ⟨by simp [upd, hn, h1, occ], by simp [upd, hn, h2], by simp [upd, hn, occ, tV, fV], fun n a b c => by simp [upd, hn, c, h0 n a b], fun n => ?_, .inl (by simp [takeG, hb]), fun v hv => ?_, by simp⟩
  · simp only [takeG, ht, upd]
    by_cases e : n = 3
    · simp [e]
    · simp [e, htk, or_comm]
  · simp at hv; exact .inl hv
end Go.Proofs.Ythpnhdopheofcaa
end
section
namespace Go.Proofs.Ythpnhdopheofcaa
open Go.Dx
variable {tbl : Nat → Option CFunc}
def coV : Vl := ⟨8, 2⟩
theorem SX.objs3 {G : Hp} {s h : List Vl} (hX : SX G s h) : (List.range 3).map (obAt G) = [⟨7, 1 + occ fV (s ++ h), [], 0, 0, 0⟩, ⟨8, 1, s, 0, 0, 0⟩, ⟨6, 1 + occ tV (s ++ h), [], 0, 0, 0⟩] := by
  have e : List.range 3 = [0, 1, 2] := by decide
  rw [e]
  have h1 := hX.o1
  have h2 := hX.o2
  have h3 := hX.o3
  simp [obAt, h1, h2, h3]
theorem slot_fine {s : List Vl} {os : List Ob} {a b c : Ob} (ho : os = [a, b, c]) (ha : a.kind = 7) (hc : c.kind = 6) (h : ∀ v ∈ s, okV v) : ∀ v ∈ s, slotOk os v := by
  intro v hv
  subst ho
  rcases h v hv with rfl | rfl | hp
  · exact ⟨by decide, by decide, fun _ => ⟨0, by simp, rfl, ha⟩⟩
  · exact ⟨by decide, by decide, fun _ => ⟨2, by simp, rfl, hc⟩⟩
  · exact ⟨hp.2.2, hp.2.1, fun e => by rw [refV_no hp.1] at e; cases e⟩
theorem fine_of {os : List Ob} {k c : Int} {s : List Vl} (hk : 6 ≤ k ∧ k ≤ 9) (hc : 0 ≤ c) (hs : ∀ v ∈ s, slotOk os v) (hl : s.length < 2 ^ 62) : ObFine os ⟨k, c, s, 0, 0, 0⟩ :=
  ⟨⟨by show 5 ≤ k; omega, by show k ≤ 9; omega⟩, hc, by show (-1 : Int) ≤ 0; decide, by show if k = 5 then _ else _; rw [if_neg (by omega)]; exact ⟨rfl, rfl⟩, hs, hl⟩
theorem SX.fine {G : Hp} {s h : List Vl} (hX : SX G s h) : ∀ o ∈ (List.range 3).map (obAt G), ObFine ((List.range 3).map (obAt G)) o := by
  have n1 := occ_nonneg fV (s ++ h)
  have n3 := occ_nonneg tV (s ++ h)
  have hs := slot_fine (s := s) hX.objs3 rfl rfl fun v hv => hX.ok v (List.mem_append_left _ hv)
  rw [hX.objs3] at hs ⊢
  intro o ho
  simp only [List.mem_cons, List.not_mem_nil, or_false] at ho
  rcases ho with rfl | rfl | rfl
  · exact fine_of ⟨by decide, by decide⟩ (by omega) (fun v hv => (by cases hv)) (by decide)
  · exact fine_of ⟨by decide, by decide⟩ (by decide) hs (by have := hX.len; omega)
  · exact fine_of ⟨by decide, by decide⟩ (by omega) (fun v hv => (by cases hv)) (by decide)
theorem SX.exact {G : Hp} {s : List Vl} (hX : SX G s []) : ∀ i (hi : i < ((List.range 3).map (obAt G)).length), ((List.range 3).map (obAt G))[i].kind ≠ 0 → ((List.range 3).map (obAt G))[i].count = cntI ((i : Int) + 1) (allRefs ((List.range 3).map (obAt G))) + cntI ((i : Int) + 1) (refsL [fV, tV, coV]) := by
  have hok : ∀ v ∈ s, okV v := fun v hv => hX.ok v (List.mem_append_left _ hv)
  obtain ⟨c1, c3, c2⟩ := cnt_refs hok
  have er : refsL [fV, tV, coV] = [1, 3, 2] := by decide
  have ho := hX.objs3
  rw [List.append_nil] at ho
  have ea : allRefs ((List.range 3).map (obAt G)) = refsL s := by rw [ho]; simp [allRefs, refsL]
  intro i hi _
  rw [ea, er]
  have hi3 : i < 3 := by simpa using hi
  have e0 : ∀ j (hj : j < ((List.range 3).map (obAt G)).length) (x : Ob), [(⟨7, 1 + occ fV s, [], 0, 0, 0⟩ : Ob), ⟨8, 1, s, 0, 0, 0⟩, ⟨6, 1 + occ tV s, [], 0, 0, 0⟩][j]? = some x → ((List.range 3).map (obAt G))[j] = x := by
    intro j hj x hx
    refine Option.some.inj ((List.getElem?_eq_getElem hj).symm.trans ?_)
    rw [ho]; exact hx
  rcases i with _ | _ | _ | i
  · rw [e0 0 hi _ rfl]
    show 1 + occ fV s = cntI ((0 : Nat) + 1 : Int) (refsL s) + _
    simp [c1, cntI]; omega
  · rw [e0 1 hi _ rfl]
    show (1 : Int) = cntI (((0 + 1 : Nat) : Int) + 1) (refsL s) + _
    have : (((0 + 1 : Nat) : Int) + 1) = 2 := by omega
    rw [this, c2]
    simp [cntI]
  · rw [e0 2 hi _ rfl]
    show 1 + occ tV s = cntI (((0 + 1 + 1 : Nat) : Int) + 1) (refsL s) + _
    have : (((0 + 1 + 1 : Nat) : Int) + 1) = 3 := by omega
    rw [this, c3]
    simp [cntI]; omega
  · omega
end Go.Proofs.Ythpnhdopheofcaa
end
section
namespace Go.Proofs.Ythpnhdopheofcaa
open Go.Dx
variable {tbl : Nat → Option CFunc}
structure INV (calls : List Fr) (s : List Vl) (k : Nat) : Prop where
  len : s.length ≤ 1 + 5 * k
  cn : calls.length ≤ 1 + k
  fr : ∀ f ∈ calls, ∃ b : Nat, f.base = (b : Int) ∧ b + 1 ≤ s.length
  inc : calls.Pairwise fun f g => f.base < g.base
  tr : ∀ f ∈ calls, f.tries.length ≤ k ∧ ∀ t ∈ f.tries, ∃ h : Nat, t.1 = (h : Int) ∧ h ≤ 1 + 5 * k
theorem INV.mono {calls : List Fr} {s : List Vl} {k k' : Nat} (h : INV calls s k) (hk : k ≤ k') : INV calls s k' :=
  ⟨by have := h.len; omega, by have := h.cn; omega, h.fr, h.inc, fun f hf => ⟨by have := (h.tr f hf).1; omega, fun t ht => by obtain ⟨n, h1, h2⟩ := (h.tr f hf).2 t ht; exact ⟨n, h1, by omega⟩⟩⟩
theorem INV.top {cs : List Fr} {f : Fr} {s : List Vl} {k : Nat} (h : INV (cs ++ [f]) s k) : ∀ g ∈ cs, g.base < f.base := by
  have := List.pairwise_append.1 h.inc
  exact fun g hg => this.2.2 g hg f (by simp)
theorem INV.to {cs : List Fr} {f : Fr} {s s' : List Vl} {k k' : Nat} (h : INV (cs ++ [f]) s k) (hk : k ≤ k') {b : Nat} (hb : f.base = (b : Int)) (h1 : b + 1 ≤ s'.length) (h2 : s'.length ≤ 1 + 5 * k') : INV (cs ++ [f]) s' k' := by
  have ht := h.top
  refine ⟨h2, (h.mono hk).cn, fun g hg => ?_, h.inc, (h.mono hk).tr⟩
  obtain ⟨c, e, _⟩ := h.fr g hg
  refine ⟨c, e, ?_⟩
  rcases List.mem_append.1 hg with hg | hg
  · have := ht g hg; omega
  · rw [List.mem_singleton] at hg; subst hg; omega
theorem INV.last {cs : List Fr} {f f' : Fr} {s s' : List Vl} {k k' : Nat} (h : INV (cs ++ [f]) s k) (hk : k ≤ k') {b : Nat} (hb : f.base = (b : Int)) (hf : f'.base = f.base) (h1 : b + 1 ≤ s'.length) (h2 : s'.length ≤ 1 + 5 * k') (h3 : f'.tries.length ≤ k' ∧ ∀ t ∈ f'.tries, ∃ h : Nat, t.1 = (h : Int) ∧ h ≤ 1 + 5 * k') : INV (cs ++ [f']) s' k' := by
  have h' := h.to hk hb h1 h2
  have hp := List.pairwise_append.1 h'.inc
  refine ⟨h2, by have := h'.cn; simpa using this, fun g hg => ?_, ?_, fun g hg => ?_⟩
  · rcases List.mem_append.1 hg with hg | hg
    · exact h'.fr g (List.mem_append_left _ hg)
    · rw [List.mem_singleton] at hg; subst hg; exact ⟨b, by rw [hf, hb], h1⟩
  · refine List.pairwise_append.2 ⟨hp.1, List.pairwise_singleton _ _, fun a ha c hc => ?_⟩
    rw [List.mem_singleton] at hc; subst hc; rw [hf]; exact hp.2.2 a ha f (by simp)
  · rcases List.mem_append.1 hg with hg | hg
    · exact h'.tr g (List.mem_append_left _ hg)
    · rw [List.mem_singleton] at hg; subst hg; exact h3
theorem INV.more {cs : List Fr} {f : Fr} {s s' : List Vl} {k k' n b : Nat} (h : INV (cs ++ [f]) s k) (hk : k + 1 ≤ k') (hb : f.base = (b : Int)) (hn : b < n) (h1 : n + 1 ≤ s'.length) (h2 : s'.length ≤ 1 + 5 * k') : INV (cs ++ [f] ++ [⟨(n : Int), 0, []⟩]) s' k' := by
  have h' := h.to (k' := k') (by omega) hb (s' := s') (by omega) h2
  have ht := h'.top
  refine ⟨h2, by have := h.cn; simp only [List.length_append, List.length_singleton] at this ⊢; omega, fun g hg => ?_, ?_, fun g hg => ?_⟩
  · rcases List.mem_append.1 hg with hg | hg
    · exact h'.fr g hg
    · rw [List.mem_singleton] at hg; subst hg; exact ⟨n, rfl, h1⟩
  · refine List.pairwise_append.2 ⟨h'.inc, List.pairwise_singleton _ _, fun a ha c hc => ?_⟩
    rw [List.mem_singleton] at hc; subst hc
    show a.base < (n : Int)
    rcases List.mem_append.1 ha with ha | ha
    · have := ht a ha; omega
    · rw [List.mem_singleton] at ha; subst ha; omega
  · rcases List.mem_append.1 hg with hg | hg
    · exact h'.tr g hg
    · rw [List.mem_singleton] at hg; subst hg; exact ⟨Nat.zero_le _, fun t ht => by cases ht⟩
theorem INV.less {cs : List Fr} {f : Fr} {s s' : List Vl} {k k' b : Nat} (h : INV (cs ++ [f]) s k) (hk : k ≤ k') (hb : f.base = (b : Int)) (h1 : b ≤ s'.length) (h2 : s'.length ≤ 1 + 5 * k') : INV cs s' k' := by
  have ht := h.top
  have hp := List.pairwise_append.1 h.inc
  have h' := h.mono hk
  refine ⟨h2, by have := h'.cn; simp only [List.length_append, List.length_singleton] at this; omega, fun g hg => ?_, hp.1, fun g hg => h'.tr g (List.mem_append_left _ hg)⟩
  obtain ⟨c, e, _⟩ := h.fr g (List.mem_append_left _ hg)
  have := ht g hg
  exact ⟨c, e, by omega⟩
theorem INV.pre {cs post : List Fr} {f : Fr} {s : List Vl} {k : Nat} (h : INV (cs ++ [f] ++ post) s k) : INV (cs ++ [f]) s k := by
  refine ⟨h.len, by have := h.cn; simp only [List.length_append] at this ⊢; omega, fun g hg => h.fr g (List.mem_append_left _ hg), (List.pairwise_append.1 h.inc).1, fun g hg => h.tr g (List.mem_append_left _ hg)⟩
theorem split_tries : ∀ calls : List Fr, (∀ g ∈ calls, g.tries = []) ∨ ∃ cs f post, calls = cs ++ [f] ++ post ∧ f.tries ≠ [] ∧ ∀ g ∈ post, g.tries = []
  | [] => .inl fun g hg => by cases hg
  | f :: r => by
    rcases split_tries r with h | ⟨cs, g, post, e, h1, h2⟩
    · by_cases e : f.tries = []
      · exact .inl fun g hg => by rcases List.mem_cons.1 hg with rfl | hg; exact e; exact h g hg
      · exact .inr ⟨[], f, r, rfl, e, h⟩
    · exact .inr ⟨f :: cs, g, post, by rw [e]; rfl, h1, h2⟩
def St (M0 M : Mem) (sp hp : Pos) (P : Pos → Prop) (k : Nat) : Prop := ∃ calls s, WX M0 M sp hp P calls s [] ∧ INV calls s k
def StV (M0 M : Mem) (sp hp : Pos) (P : Pos → Prop) (v : Vl) (k : Nat) : Prop := ∃ calls s, WX M0 M sp hp P calls s [v] ∧ INV calls s k
theorem St.mono {M0 M : Mem} {sp hp : Pos} {P : Pos → Prop} {k k' : Nat} (h : St M0 M sp hp P k) (hk : k ≤ k') : St M0 M sp hp P k' := by
  obtain ⟨calls, s, h1, h2⟩ := h
  exact ⟨calls, s, h1, h2.mono hk⟩
theorem St.quiet {M0 M M' : Mem} {sp hp : Pos} {P : Pos → Prop} {k : Nat} (h : St M0 M sp hp P k) (hw : M'.wf) (b : But (fun _ => False) M M') : St M0 M' sp hp P k := by
  obtain ⟨calls, s, h1, h2⟩ := h
  exact ⟨calls, s, h1.quiet hw b, h2⟩
theorem StV.quiet {M0 M M' : Mem} {sp hp : Pos} {P : Pos → Prop} {v : Vl} {k : Nat} (h : StV M0 M sp hp P v k) (hw : M'.wf) (b : But (fun _ => False) M M') : StV M0 M' sp hp P v k := by
  obtain ⟨calls, s, h1, h2⟩ := h
  exact ⟨calls, s, h1.quiet hw b, h2⟩
section
variable {M0 M : Mem} {sp hp : Pos} {P : Pos → Prop} {k : Nat} {v : Vl}
theorem value_w (T : SkT tbl) (h52 : tbl 52 = some cf52) (h16 : tbl 16 = some cf16) (h27 : tbl 27 = some cf27) {n : Int} (hn : 0 ≤ n ∧ n < 256) (hx : St M0 M sp hp P k) (hk : k ≤ 100) :
    CallW tbl 52 (.cons (.ptr hp 0) (.cons (VlA fV) (.cons (VlA tV) (.cons (.int 4 n) .nil)))) M fun r M' => (∃ v, r = .ret (VlA v) ∧ StV M0 M' sp hp P v k) ∧ But (fun p => ¬ P p) M M' := by
  obtain ⟨calls, s, h1, h2⟩ := hx
  have hl := h2.len
  refine (value_x T h52 h16 h27 hn h1 (by simp; omega)).mono ?_
  rintro r M' ⟨v, rfl, _, h3, b⟩
  exact ⟨⟨v, rfl, calls, s, h3, h2⟩, b⟩
theorem drop_w (T : SkT tbl) (hx : StV M0 M sp hp P v k) :
    CallW tbl 38 (.cons (.ptr hp 0) (.cons (VlA v) .nil)) M fun r M' => r = .ret (.int 3 0) ∧ St M0 M' sp hp P k ∧ But (fun p => ¬ P p) M M' := by
  obtain ⟨calls, s, h1, h2⟩ := hx
  obtain ⟨cv, hz⟩ := h1.spc
  obtain ⟨G, hS, hW⟩ := h1.st
  refine (hdrop_x T hS hz hW).use ?_
  rintro r M' w' ⟨rfl, st, b, hz'⟩
  exact ⟨rfl, ⟨calls, s, h1.nexts w' st b hz', h2⟩, b⟩
theorem push_w (T : SkT tbl) (hx : StV M0 M sp hp P v k) (hk : k ≤ 100) :
    CallW tbl 15 (.cons (.ptr sp 0) (.cons (VlA v) .nil)) M fun r M' => (∃ e, r = .ret (.int 3 e) ∧ ((e = 0 ∧ St M0 M' sp hp P (k + 1)) ∨ (e ≠ 0 ∧ StV M0 M' sp hp P v k))) ∧ But (fun p => ¬ P p) M M' := by
  obtain ⟨calls, s, h1, h2⟩ := hx
  obtain ⟨G, hS, hW⟩ := h1.st
  have hl := h2.len
  have hc := h2.cn
  rcases List.eq_nil_or_concat calls with rfl | ⟨cs, f, rfl⟩
  · refine (spush_end T hS).use ?_
    rintro r M' w' ⟨rfl, b⟩
    exact ⟨⟨5, rfl, .inr ⟨by decide, [], s, h1.quiet w' b, h2⟩⟩, b.any _⟩
  · obtain ⟨bs, hb, hbs⟩ := h2.fr f (by simp)
    rw [List.concat_eq_append] at *
    simp only [List.length_append, List.length_singleton] at hc
    refine (spush_x T hS hW (by omega) (by omega) (by omega)).use ?_
    rintro r M' w' ⟨⟨rfl, st⟩ | ⟨rfl, st⟩, b, hh⟩
    · exact ⟨⟨0, rfl, .inl ⟨rfl, _, _, h1.next w' st b hh, h2.to (by omega) hb (by simp; omega) (by simp; omega)⟩⟩, b⟩
    · exact ⟨⟨3, rfl, .inr ⟨by decide, _, _, h1.next w' st b hh, h2⟩⟩, b⟩
theorem pop_w (T : SkT tbl) (h33 : tbl 33 = some cf33) (hx : St M0 M sp hp P k) (hk : k ≤ 100) :
    CallW tbl 33 (.cons (.ptr sp 0) .nil) M fun r M' => (∃ v e, r = .ret (.tuple (.cons (VlA v) (.cons (.int 3 e) .nil))) ∧ ((e = 0 ∧ StV M0 M' sp hp P v k) ∨ (e ≠ 0 ∧ St M0 M' sp hp P k))) ∧ But (fun p => ¬ P p) M M' := by
  obtain ⟨calls, s, h1, h2⟩ := hx
  obtain ⟨G, hS, hW⟩ := h1.st
  have hl := h2.len
  have hc := h2.cn
  rcases List.eq_nil_or_concat calls with rfl | ⟨cs, f, rfl⟩
  · refine (spop_end T h33 hS).use ?_
    rintro r M' w' ⟨rfl, b⟩
    exact ⟨⟨⟨0, 0⟩, 5, rfl, .inr ⟨by decide, [], s, h1.quiet w' b, h2⟩⟩, b.any _⟩
  · obtain ⟨bs, hb, hbs⟩ := h2.fr f (by simp)
    rw [List.concat_eq_append] at *
    simp only [List.length_append, List.length_singleton] at hc
    by_cases he : bs + 1 = s.length
    · refine (spop_none T h33 hS hW (by omega) (by omega) (by omega)).use ?_
      rintro r M' w' ⟨rfl, b⟩
      exact ⟨⟨⟨0, 0⟩, 5, rfl, .inr ⟨by decide, _, s, h1.quiet w' b, h2⟩⟩, b.any _⟩
    · rcases List.eq_nil_or_concat s with rfl | ⟨s0, v, rfl⟩
      · simp at hbs
      · rw [List.concat_eq_append] at *
        simp only [List.length_append, List.length_singleton] at hbs he hl
        refine (spop_x T h33 hS hW (by omega) (by omega) (by omega)).use ?_
        rintro r M' w' ⟨rfl, st, b, hh⟩
        exact ⟨⟨v, 0, rfl, .inl ⟨rfl, _, _, h1.next w' st b hh, h2.to (Nat.le_refl _) hb (by omega) (by omega)⟩⟩, b⟩
theorem store_w (T : SkT tbl) (h32 : tbl 32 = some cf32) (h79 : tbl 79 = some cf79) (hx : St M0 M sp hp P k) (hk : k ≤ 100) {a : Nat} (ha : a < 8) :
    CallW tbl 32 (.cons (.ptr sp 0) (.cons (.int 3 a) .nil)) M fun r M' => (∃ e, r = .ret e) ∧ St M0 M' sp hp P k ∧ But (fun p => ¬ P p) M M' := by
  obtain ⟨calls, s, h1, h2⟩ := hx
  obtain ⟨G, hS, hW⟩ := h1.st
  have hl := h2.len
  have hc := h2.cn
  rcases List.eq_nil_or_concat calls with rfl | ⟨cs, f, rfl⟩
  · refine (store_end T h32 hS).use ?_
    rintro r M' w' ⟨⟨e, rfl⟩, b⟩
    exact ⟨⟨_, rfl⟩, ⟨[], s, h1.quiet w' b, h2⟩, b.any _⟩
  · obtain ⟨bs, hb, hbs⟩ := h2.fr f (by simp)
    rw [List.concat_eq_append] at *
    simp only [List.length_append, List.length_singleton] at hc
    by_cases he : s.length ≤ bs + 2 + a
    · refine (store_bad T h32 hS hW hb hbs he (by omega) (by omega)).use ?_
      rintro r M' w' ⟨⟨e, rfl⟩, b⟩
      exact ⟨⟨_, rfl⟩, ⟨_, s, h1.quiet w' b, h2⟩, b.any _⟩
    · rcases List.eq_nil_or_concat s with rfl | ⟨s0, v, rfl⟩
      · simp at hbs
      · rw [List.concat_eq_append] at *
        simp only [List.length_append, List.length_singleton] at hbs he hl
        refine (store_x T h32 h79 hS hW hb (by omega) (by omega)).use ?_
        rintro r M' w' ⟨rfl, st, b, hh⟩
        exact ⟨⟨_, rfl⟩, ⟨_, _, h1.next w' st b hh, h2.to (Nat.le_refl _) hb (by simp; omega) (by simp; omega)⟩, b⟩
theorem enter_w (T : SkT tbl) (hx : St M0 M sp hp P k) (hk : k ≤ 100) {a q : Nat} (ha : a < 4) (hq : q < 5) :
    CallW tbl 19 (.cons (.ptr sp 0) (.cons (.int 3 a) (.cons (.int 3 q) .nil))) M fun r M' => (∃ e, r = .ret e) ∧ St M0 M' sp hp P (k + 1) ∧ But (fun p => ¬ P p) M M' := by
  obtain ⟨calls, s, h1, h2⟩ := hx
  obtain ⟨G, hS, hW⟩ := h1.st
  have hl := h2.len
  have hc := h2.cn
  rcases List.eq_nil_or_concat calls with rfl | ⟨cs, f, rfl⟩
  · refine (enter_end T hS).use ?_
    rintro r M' w' ⟨⟨e, rfl⟩, b⟩
    exact ⟨⟨_, rfl⟩, ⟨[], s, h1.quiet w' b, h2.mono (by omega)⟩, b.any _⟩
  · obtain ⟨bs, hb, hbs⟩ := h2.fr f (by simp)
    rw [List.concat_eq_append] at *
    simp only [List.length_append, List.length_singleton] at hc
    by_cases he : s.length ≤ bs + 1 + a ∨ (∃ x, s[s.length - 1 - a]? = some x ∧ x.k ≠ 7) ∨ 99 ≤ cs.length
    · refine (enter_bad T hS hW hb hbs (by omega) (by omega) he (by omega)).use ?_
      rintro r M' w' ⟨⟨e, rfl⟩, b⟩
      exact ⟨⟨_, rfl⟩, ⟨_, s, h1.quiet w' b, h2.mono (by omega)⟩, b.any _⟩
    · have e1 : bs + 1 + a < s.length := by have := fun e => he (.inl e); omega
      have e2 : ∀ x, s[s.length - 1 - a]? = some x → x.k = 7 := fun x hx => Decidable.byContradiction fun h => he (.inr (.inl ⟨x, hx, h⟩))
      have e3 : cs.length < 99 := by have := fun e => he (.inr (.inr e)); omega
      refine (enter_x T (hW.good (cs := cs) (f := f) (by omega) (by omega) (by omega)) hS hW rfl hb e1 (by omega) e2 e3 (by simp; omega)).use ?_
      rintro r M' w' ⟨rfl, st, b, hh⟩
      exact ⟨⟨_, rfl⟩, ⟨_, _, h1.next w' st b hh, h2.more (Nat.le_refl _) hb (by omega) (by simp; omega) (by simp; omega)⟩, b⟩
theorem leave_w (T : SkT tbl) (hx : St M0 M sp hp P k) (hk : k ≤ 100) :
    CallW tbl 28 (.cons (.ptr sp 0) .nil) M fun r M' => (∃ e, r = .ret e) ∧ St M0 M' sp hp P (k + 1) ∧ But (fun p => ¬ P p) M M' := by
  obtain ⟨calls, s, h1, h2⟩ := hx
  obtain ⟨G, hS, hW⟩ := h1.st
  have hl := h2.len
  have hc := h2.cn
  rcases List.eq_nil_or_concat calls with rfl | ⟨cs, f, rfl⟩
  · refine (leave_end T hS).use ?_
    rintro r M' w' ⟨⟨e, rfl⟩, b⟩
    exact ⟨⟨_, rfl⟩, ⟨[], s, h1.quiet w' b, h2.mono (by omega)⟩, b.any _⟩
  · obtain ⟨bs, hb, hbs⟩ := h2.fr f (by simp)
    rw [List.concat_eq_append] at *
    simp only [List.length_append, List.length_singleton] at hc
    by_cases he : bs + 1 = s.length
    · refine (leave_none T hS hW (by omega) (by omega) (by omega)).use ?_
      rintro r M' w' ⟨⟨e, rfl⟩, b⟩
      exact ⟨⟨_, rfl⟩, ⟨_, s, h1.quiet w' b, h2.mono (by omega)⟩, b.any _⟩
    · rcases List.eq_nil_or_concat s with rfl | ⟨s0, v, rfl⟩
      · simp at hbs
      · rw [List.concat_eq_append] at *
        have hg := hW.good (cs := cs) (f := f) (by omega) (by omega) (by omega)
        simp only [List.length_append, List.length_singleton] at hbs he hl
        refine (leave_x T hg hS hW rfl hb (by omega)).use ?_
        rintro r M' w' ⟨rfl, st, b, hh⟩
        exact ⟨⟨_, rfl⟩, ⟨_, _, h1.next w' st b hh, h2.less (by omega) hb (by simp; omega) (by simp; omega)⟩, b⟩
theorem try_w (T : SkT tbl) (hx : St M0 M sp hp P k) (hk : k ≤ 100) {a : Int} (ha : 0 ≤ a) :
    CallW tbl 17 (.cons (.ptr sp 0) (.cons (.int 3 a) .nil)) M fun r M' => (∃ e, r = .ret e) ∧ St M0 M' sp hp P (k + 1) ∧ But (fun p => ¬ P p) M M' := by
  obtain ⟨calls, s, h1, h2⟩ := hx
  obtain ⟨G, hS, hW⟩ := h1.st
  have hl := h2.len
  have hc := h2.cn
  rcases List.eq_nil_or_concat calls with rfl | ⟨cs, f, rfl⟩
  · refine (try_end T hS).use ?_
    rintro r M' w' ⟨⟨e, rfl⟩, b⟩
    exact ⟨⟨_, rfl⟩, ⟨[], s, h1.quiet w' b, h2.mono (by omega)⟩, b.any _⟩
  · obtain ⟨bs, hb, hbs⟩ := h2.fr f (by simp)
    rw [List.concat_eq_append] at *
    simp only [List.length_append, List.length_singleton] at hc
    obtain ⟨t1, t2⟩ := h2.tr f (by simp)
    refine (try_spec T (hW.good (cs := cs) (f := f) (by omega) (by omega) (by omega)) hS ha (by omega)).use ?_
    rintro r M' w' ⟨rfl, hS', b, hh⟩
    refine ⟨⟨_, rfl⟩, ⟨_, s, h1.next w' ⟨G, hS', hW⟩ b hh, h2.last (by omega) hb rfl hbs (by omega) ⟨by simp; omega, fun t ht => ?_⟩⟩, b⟩
    rcases List.mem_append.1 ht with ht | ht
    · obtain ⟨n, e1, e2⟩ := t2 t ht; exact ⟨n, e1, by omega⟩
    · rw [List.mem_singleton] at ht; subst ht; exact ⟨s.length - bs - 1, by show (s.length : Int) - f.base - 1 = _; omega, by omega⟩
theorem throw_w (T : SkT tbl) (hx : StV M0 M sp hp P v k) (hk : k ≤ 100) :
    CallW tbl 20 (.cons (.ptr sp 0) (.cons (VlA v) .nil)) M fun r M' => (∃ d e, r = .ret (.tuple (.cons d (.cons (.int 3 e) .nil))) ∧ ((e = 0 ∧ St M0 M' sp hp P (k + 1)) ∨ (e ≠ 0 ∧ StV M0 M' sp hp P v k))) ∧ But (fun p => ¬ P p) M M' := by
  obtain ⟨calls, s, h1, h2⟩ := hx
  obtain ⟨G, hS, hW⟩ := h1.st
  have hl := h2.len
  have hc := h2.cn
  rcases List.eq_nil_or_concat calls with rfl | ⟨csl, fl, e0⟩
  · refine (throw_end T hS).use ?_
    rintro r M' w' ⟨rfl, b⟩
    exact ⟨⟨_, 5, rfl, .inr ⟨by decide, [], s, h1.quiet w' b, h2⟩⟩, b.any _⟩
  · rw [List.concat_eq_append] at e0
    obtain ⟨bl, hbl, hbls⟩ := h2.fr fl (by rw [e0]; simp)
    have hcl : csl.length ≤ k := by rw [e0] at hc; simp only [List.length_append, List.length_singleton] at hc; omega
    have hg := hW.good (cs := csl) (f := fl) (by omega) (by omega) (by omega)
    rcases split_tries calls with hn | ⟨cs, f, post, e1, h3, h4⟩
    · refine (throw_out T e0 hg hS hW hn).use ?_
      rintro r M' w' ⟨rfl, st, b, hh⟩
      exact ⟨⟨_, 0, rfl, .inl ⟨rfl, [], [v], h1.next w' st b hh, by simp, by simp, fun f hf => (by cases hf), List.Pairwise.nil, fun f hf => (by cases hf)⟩⟩, b⟩
    · subst e1
      obtain ⟨bs, hb, hbs⟩ := h2.fr f (by simp)
      obtain ⟨t1, t2⟩ := h2.tr f (by simp)
      rcases List.eq_nil_or_concat f.tries with e2 | ⟨ts, ⟨hh0, tg⟩, e2⟩
      · exact absurd e2 h3
      · rw [List.concat_eq_append] at e2
        obtain ⟨hn, e3, e4⟩ := t2 (hh0, tg) (by rw [e2]; simp)
        simp only at e3
        subst e3
        refine (throw_x T e0 hg hS hW h4 e2 (by omega) hb (by omega)).use ?_
        rintro r M' w' ⟨rfl, st, b, hh⟩
        refine ⟨⟨_, 0, rfl, .inl ⟨rfl, _, _, h1.next w' st b hh, h2.pre.last (by omega) hb rfl (by simp; omega) (by simp; omega) ⟨?_, fun t ht => ?_⟩⟩⟩, b⟩
        · rw [e2] at t1; simp at t1; show ts.length ≤ _; omega
        · obtain ⟨n, e5, e6⟩ := t2 t (by rw [e2]; exact List.mem_append_left _ ht); exact ⟨n, e5, by omega⟩
end
end Go.Proofs.Ythpnhdopheofcaa
end
section
namespace Go.Proofs.Ythpnhdopheofcaa
open Go.Dx
variable {tbl : Nat → Option CFunc}
def lC : CCode → CCode
  | .seq a _ => a
  | .block _ c => c
  | .loop c => c
  | _ => .skip
def rC : CCode → CCode
  | .seq _ b => b
  | _ => .skip
def loops9 : CCode := rC (rC (rC (rC (rC cf9.body))))
def body9 : CCode := lC (lC (rC (lC loops9)))
def in9 : CCode := lC (lC (rC body9))
def act9 : CCode := lC (rC in9)
def audit9 : CCode := rC (rC in9)
theorem body9_eq : cf9.body = .seq (lC cf9.body) (.seq (lC (rC cf9.body)) (.seq (lC (rC (rC cf9.body))) (.seq (lC (rC (rC (rC cf9.body)))) (.seq (lC (rC (rC (rC (rC cf9.body))))) loops9)))) := rfl
theorem loops9_eq : loops9 = .seq (.seq (lC (lC loops9)) (.block 0 (.loop (.seq (lC body9) (.seq (.block 1 (.seq (lC in9) (.seq act9 audit9))) (rC (rC body9))))))) (rC loops9) := rfl
structure FX (fr : Tr AV) (sv hv : AV) (sp hp q1 q2 : Pos) (k : Nat) : Prop where
  f1 : fr.get (.o .h) = some sv
  f2 : fr.get (.i (.i .h)) = some (.ptr q1 0)
  f3 : fr.get (.i (.o .h)) = some (.ptr hp 0)
  f4 : fr.get (.o (.i .h)) = some (.ptr sp 0)
  f5 : fr.get (.o (.o (.o .h))) = some (.ptr q2 0)
  f6 : fr.get (.i (.o (.o .h))) = some hv
  f7 : fr.get (.o (.i (.o .h))) = some (.int 3 k)
theorem StV.wide {M0 M M' : Mem} {sp hp : Pos} {P : Pos → Prop} {v : Vl} {k : Nat} (h : StV M0 M sp hp P v k) (hw : M'.wf) (b : But (fun _ => False) M M') {q : Pos} (h1 : M.next.num ≤ q.num) (h2 : q.num < M'.next.num) : StV M' M' sp hp (fun p => P p ∨ p = q) v k := by
  obtain ⟨calls, s, hx, hi⟩ := h
  obtain ⟨G, hS, hW⟩ := hx.st
  obtain ⟨co, cv, h3⟩ := hx.hp
  exact ⟨calls, s, ⟨hw, ⟨G, hS.wide b h1 h2, hW⟩, But.refl _ _, co, cv, b.get _ _ id h3⟩, hi⟩
theorem St.less {M1 M0 M : Mem} {sp hp : Pos} {P Q : Pos → Prop} {k : Nat} (h : St M1 M sp hp Q k) (hq : ∀ p, P p → Q p) (b : But (fun p => ¬ P p) M0 M) : St M0 M sp hp P k := by
  obtain ⟨calls, s, hx, hi⟩ := h
  obtain ⟨G, hS, hW⟩ := hx.st
  exact ⟨calls, s, ⟨hx.wf, ⟨G, hS.less hq, hW⟩, b, hx.hp⟩, hi⟩
theorem St.but {M0 M : Mem} {sp hp : Pos} {P : Pos → Prop} {k : Nat} (h : St M0 M sp hp P k) : But (fun p => ¬ P p) M0 M := by
  obtain ⟨calls, s, hx, hi⟩ := h
  exact hx.but
theorem StV.but {M0 M : Mem} {sp hp : Pos} {P : Pos → Prop} {v : Vl} {k : Nat} (h : StV M0 M sp hp P v k) : But (fun p => ¬ P p) M0 M := by
  obtain ⟨calls, s, hx, hi⟩ := h
  exact hx.but
set_option maxHeartbeats 4000000 in
theorem act_x (T : SkT tbl) (h52 : tbl 52 = some cf52) (h16 : tbl 16 = some cf16) (h27 : tbl 27 = some cf27) (h32 : tbl 32 = some cf32) (h33 : tbl 33 = some cf33) (h79 : tbl 79 = some cf79)
    {M0 M : Mem} {sp hp q1 q2 xb : Pos} {P : Pos → Prop} {k : Nat} {fr : Tr AV} {sv hv : AV} {a b c : Int} (hF : FX fr sv hv sp hp q1 q2 k) (hX : St M0 M sp hp P k) (hk : k ≤ 99) (h1 : P q1) (h2 : P q2) (hq1 : M.get q1 = some (.cells [.int 3 7, .int 3 1] false)) (hq2 : M.get q2 = some (.cells [.int 3 6, .int 3 3] false))
    (ha : 0 ≤ a ∧ a < 256) (hb : 0 ≤ b ∧ b < 256) (hc : 0 ≤ c ∧ c < 256) (hx : M.get xb = some (.cells [.int 4 a, .int 4 b, .int 4 c] false)) (hf : fr.get (.i (.i (.o .h))) = some (.ptr xb 0)) :
    CCode.wp tbl act9 fr M fun e fr' M' => e = .normal ∧ FX fr' sv hv sp hp q1 q2 k ∧ M'.wf ∧ St M0 M' sp hp P (k + 1) ∧ But (fun p => ¬ P p) M M' := by
  obtain ⟨f1, f2, f3, f4, f5, f6, f7⟩ := hF
  have hk9 : a % 9 = ((0 : Nat) : Int) ∨ a % 9 = ((1 : Nat) : Int) ∨ a % 9 = ((2 : Nat) : Int) ∨ a % 9 = ((3 : Nat) : Int) ∨ a % 9 = ((4 : Nat) : Int) ∨ a % 9 = ((5 : Nat) : Int) ∨ a % 9 = ((6 : Nat) : Int) ∨ a % 9 = ((7 : Nat) : Int) ∨ a % 9 = ((8 : Nat) : Int) := by omega
  rcases hk9 with e | e | e | e | e | e | e | e | e
  · have r9 : arithI .rem 4 a 9 = some (.int 4 0) := rem_nat (k := 9) ha.1 (by decide) e
    simp only [go_sem, act9, in9, body9, loops9, lC, rC, cf9, f1, f2, f3, f4, f5, f6, f7, hf, hx, r9, hq1, hq2]
    refine (value_w T h52 h16 h27 hb hX (by omega)).use ?_
    rintro r M1 w1 ⟨⟨v, rfl, hV⟩, b1⟩
    have b2 := But.fill w1 (.cells [.int 3 0, .int 3 0] false) (.cells [.int 3 v.k, .int 3 v.n] false)
    have w2 := w1.fill (.cells [.int 3 0, .int 3 0] false) (.cells [.int 3 v.k, .int 3 v.n] false)
    have x2 : ((M1.new (.cells [.int 3 0, .int 3 0] false)).put M1.next (.cells [.int 3 v.k, .int 3 v.n] false)).get M1.next = some (.cells [.int 3 v.k, .int 3 v.n] false) := by simp [Mem.put]
    have hlt : M1.next.num < ((M1.new (.cells [.int 3 0, .int 3 0] false)).put M1.next (.cells [.int 3 v.k, .int 3 v.n] false)).next.num := by show M1.next.num < M1.next.succ.num; rw [Pos.num_succ]; omega
    have hV2 := hV.wide w2 b2 (q := M1.next) (Nat.le_refl _) hlt
    simp only [go_sem, VlA, x2, f4]
    refine (push_w T hV2 (by omega)).use ?_
    rintro r M3 w3 ⟨⟨e3, rfl, hh⟩, b3⟩
    have x3 := b3.get _ _ (fun e => e (.inr rfl)) x2
    have b03 : But (fun p => ¬ P p) M M3 := (b1.trans (b2.any _)).trans (b3.mono fun p e h => e (.inl h))
    rcases hh with ⟨rfl, hS⟩ | ⟨he, hV3⟩
    · simp only [go_sem]
      exact ⟨⟨by simp [Tr.get_set, f1], by simp [Tr.get_set, f2], by simp [Tr.get_set, f3], by simp [Tr.get_set, f4], by simp [Tr.get_set, f5], by simp [Tr.get_set, f6], by simp [Tr.get_set, f7]⟩, w3, hS.less (fun p h => .inl h) (hX.but.trans b03), b03⟩
    · have g : (e3 != 0) = true := by simpa using he
      simp only [go_sem, VlA, g, x3, f3]
      refine (drop_w T hV3).use ?_
      rintro r M4 w4 ⟨rfl, hS, b4⟩
      have b04 := b03.trans (b4.mono fun p e h => e (.inl h))
      simp only [go_sem]
      exact ⟨⟨by simp [Tr.get_set, f1], by simp [Tr.get_set, f2], by simp [Tr.get_set, f3], by simp [Tr.get_set, f4], by simp [Tr.get_set, f5], by simp [Tr.get_set, f6], by simp [Tr.get_set, f7]⟩, w4, (hS.mono (Nat.le_succ k)).less (fun p h => .inl h) (hX.but.trans b04), b04⟩
  · have r9 : arithI .rem 4 a 9 = some (.int 4 1) := rem_nat (k := 9) ha.1 (by decide) e
    simp only [go_sem, act9, in9, body9, loops9, lC, rC, cf9, f1, f2, f3, f4, f5, f6, f7, hf, hx, r9, hq1, hq2]
    refine (value_w T h52 h16 h27 hb hX (by omega)).use ?_
    rintro r M1 w1 ⟨⟨v, rfl, hV⟩, b1⟩
    have b2 := But.fill w1 (.cells [.int 3 0, .int 3 0] false) (.cells [.int 3 v.k, .int 3 v.n] false)
    have w2 := w1.fill (.cells [.int 3 0, .int 3 0] false) (.cells [.int 3 v.k, .int 3 v.n] false)
    have x2 : ((M1.new (.cells [.int 3 0, .int 3 0] false)).put M1.next (.cells [.int 3 v.k, .int 3 v.n] false)).get M1.next = some (.cells [.int 3 v.k, .int 3 v.n] false) := by simp [Mem.put]
    have hlt : M1.next.num < ((M1.new (.cells [.int 3 0, .int 3 0] false)).put M1.next (.cells [.int 3 v.k, .int 3 v.n] false)).next.num := by show M1.next.num < M1.next.succ.num; rw [Pos.num_succ]; omega
    have hV2 := hV.wide w2 b2 (q := M1.next) (Nat.le_refl _) hlt
    simp only [go_sem, VlA, x2, f4]
    refine (push_w T hV2 (by omega)).use ?_
    rintro r M3 w3 ⟨⟨e3, rfl, hh⟩, b3⟩
    have x3 := b3.get _ _ (fun e => e (.inr rfl)) x2
    have b03 : But (fun p => ¬ P p) M M3 := (b1.trans (b2.any _)).trans (b3.mono fun p e h => e (.inl h))
    rcases hh with ⟨rfl, hS⟩ | ⟨he, hV3⟩
    · simp only [go_sem]
      exact ⟨⟨by simp [Tr.get_set, f1], by simp [Tr.get_set, f2], by simp [Tr.get_set, f3], by simp [Tr.get_set, f4], by simp [Tr.get_set, f5], by simp [Tr.get_set, f6], by simp [Tr.get_set, f7]⟩, w3, hS.less (fun p h => .inl h) (hX.but.trans b03), b03⟩
    · have g : (e3 != 0) = true := by simpa using he
      simp only [go_sem, VlA, g, x3, f3]
      refine (drop_w T hV3).use ?_
      rintro r M4 w4 ⟨rfl, hS, b4⟩
      have b04 := b03.trans (b4.mono fun p e h => e (.inl h))
      simp only [go_sem]
      exact ⟨⟨by simp [Tr.get_set, f1], by simp [Tr.get_set, f2], by simp [Tr.get_set, f3], by simp [Tr.get_set, f4], by simp [Tr.get_set, f5], by simp [Tr.get_set, f6], by simp [Tr.get_set, f7]⟩, w4, (hS.mono (Nat.le_succ k)).less (fun p h => .inl h) (hX.but.trans b04), b04⟩
  · have r9 : arithI .rem 4 a 9 = some (.int 4 2) := rem_nat (k := 9) ha.1 (by decide) e
    simp only [go_sem, act9, in9, body9, loops9, lC, rC, cf9, f1, f2, f3, f4, f5, f6, f7, hf, hx, r9, hq1, hq2]
    refine (value_w T h52 h16 h27 hb hX (by omega)).use ?_
    rintro r M1 w1 ⟨⟨v, rfl, hV⟩, b1⟩
    have b2 := But.fill w1 (.cells [.int 3 0, .int 3 0] false) (.cells [.int 3 v.k, .int 3 v.n] false)
    have w2 := w1.fill (.cells [.int 3 0, .int 3 0] false) (.cells [.int 3 v.k, .int 3 v.n] false)
    have x2 : ((M1.new (.cells [.int 3 0, .int 3 0] false)).put M1.next (.cells [.int 3 v.k, .int 3 v.n] false)).get M1.next = some (.cells [.int 3 v.k, .int 3 v.n] false) := by simp [Mem.put]
    have hlt : M1.next.num < ((M1.new (.cells [.int 3 0, .int 3 0] false)).put M1.next (.cells [.int 3 v.k, .int 3 v.n] false)).next.num := by show M1.next.num < M1.next.succ.num; rw [Pos.num_succ]; omega
    have hV2 := hV.wide w2 b2 (q := M1.next) (Nat.le_refl _) hlt
    simp only [go_sem, VlA, x2, f4]
    refine (push_w T hV2 (by omega)).use ?_
    rintro r M3 w3 ⟨⟨e3, rfl, hh⟩, b3⟩
    have x3 := b3.get _ _ (fun e => e (.inr rfl)) x2
    have b03 : But (fun p => ¬ P p) M M3 := (b1.trans (b2.any _)).trans (b3.mono fun p e h => e (.inl h))
    rcases hh with ⟨rfl, hS⟩ | ⟨he, hV3⟩
    · simp only [go_sem]
      exact ⟨⟨by simp [Tr.get_set, f1], by simp [Tr.get_set, f2], by simp [Tr.get_set, f3], by simp [Tr.get_set, f4], by simp [Tr.get_set, f5], by simp [Tr.get_set, f6], by simp [Tr.get_set, f7]⟩, w3, hS.less (fun p h => .inl h) (hX.but.trans b03), b03⟩
    · have g : (e3 != 0) = true := by simpa using he
      simp only [go_sem, VlA, g, x3, f3]
      refine (drop_w T hV3).use ?_
      rintro r M4 w4 ⟨rfl, hS, b4⟩
      have b04 := b03.trans (b4.mono fun p e h => e (.inl h))
      simp only [go_sem]
      exact ⟨⟨by simp [Tr.get_set, f1], by simp [Tr.get_set, f2], by simp [Tr.get_set, f3], by simp [Tr.get_set, f4], by simp [Tr.get_set, f5], by simp [Tr.get_set, f6], by simp [Tr.get_set, f7]⟩, w4, (hS.mono (Nat.le_succ k)).less (fun p h => .inl h) (hX.but.trans b04), b04⟩
  · have r9 : arithI .rem 4 a 9 = some (.int 4 3) := rem_nat (k := 9) ha.1 (by decide) e
    simp only [go_sem, act9, in9, body9, loops9, lC, rC, cf9, f1, f2, f3, f4, f5, f6, f7, hf, hx, r9, hq1, hq2]
    refine (pop_w T h33 hX (by omega)).use ?_
    rintro r M1 w1 ⟨⟨v, e3, rfl, hh⟩, b1⟩
    have b2 := But.fill w1 (.cells [.int 3 0, .int 3 0] false) (.cells [.int 3 v.k, .int 3 v.n] false)
    have w2 := w1.fill (.cells [.int 3 0, .int 3 0] false) (.cells [.int 3 v.k, .int 3 v.n] false)
    have x2 : ((M1.new (.cells [.int 3 0, .int 3 0] false)).put M1.next (.cells [.int 3 v.k, .int 3 v.n] false)).get M1.next = some (.cells [.int 3 v.k, .int 3 v.n] false) := by simp [Mem.put]
    have hlt : M1.next.num < ((M1.new (.cells [.int 3 0, .int 3 0] false)).put M1.next (.cells [.int 3 v.k, .int 3 v.n] false)).next.num := by show M1.next.num < M1.next.succ.num; rw [Pos.num_succ]; omega
    rcases hh with ⟨rfl, hV⟩ | ⟨he, hS⟩
    · have hV2 := hV.wide w2 b2 (q := M1.next) (Nat.le_refl _) hlt
      simp only [go_sem, VlA, x2, f3]
      refine (drop_w T hV2).use ?_
      rintro r M4 w4 ⟨rfl, hS, b4⟩
      have b04 : But (fun p => ¬ P p) M M4 := (b1.trans (b2.any _)).trans (b4.mono fun p e h => e (.inl h))
      simp only [go_sem]
      exact ⟨⟨by simp [Tr.get_set, f1], by simp [Tr.get_set, f2], by simp [Tr.get_set, f3], by simp [Tr.get_set, f4], by simp [Tr.get_set, f5], by simp [Tr.get_set, f6], by simp [Tr.get_set, f7]⟩, w4, (hS.mono (Nat.le_succ k)).less (fun p h => .inl h) (hX.but.trans b04), b04⟩
    · have g : (e3 == 0) = false := by simpa using he
      simp only [go_sem, VlA, x2, f3, g]
      exact ⟨⟨by simp [Tr.get_set, f1], by simp [Tr.get_set, f2], by simp [Tr.get_set, f3], by simp [Tr.get_set, f4], by simp [Tr.get_set, f5], by simp [Tr.get_set, f6], by simp [Tr.get_set, f7]⟩, w2, (hS.mono (Nat.le_succ k)).quiet w2 b2, b1.trans (b2.any _)⟩
  · have r9 : arithI .rem 4 a 9 = some (.int 4 4) := rem_nat (k := 9) ha.1 (by decide) e
    obtain ⟨n8, hn8, hn8'⟩ : ∃ n : Nat, b % 8 = (n : Int) ∧ n < 8 := ⟨(b % 8).toNat, by omega, by omega⟩
    have r8 := rem_nat (k := 8) hb.1 (by decide) hn8
    have e8 : (kindOf 3).wrap (n8 : Int) = (n8 : Int) := wrap64 (by omega) (by omega)
    simp only [go_sem, act9, in9, body9, loops9, lC, rC, cf9, f1, f2, f3, f4, f5, f6, f7, hf, hx, r9, hq1, hq2, r8, e8]
    refine (store_w T h32 h79 hX (by omega) hn8').use ?_
    rintro r M1 w1 ⟨⟨v, rfl⟩, hS, b1⟩
    simp only [go_sem]
    exact ⟨⟨by simp [Tr.get_set, f1], by simp [Tr.get_set, f2], by simp [Tr.get_set, f3], by simp [Tr.get_set, f4], by simp [Tr.get_set, f5], by simp [Tr.get_set, f6], by simp [Tr.get_set, f7]⟩, w1, hS.mono (Nat.le_succ k), b1⟩
  · have r9 : arithI .rem 4 a 9 = some (.int 4 5) := rem_nat (k := 9) ha.1 (by decide) e
    obtain ⟨n4, hn4, hn4'⟩ : ∃ n : Nat, b % 4 = (n : Int) ∧ n < 4 := ⟨(b % 4).toNat, by omega, by omega⟩
    have r4 := rem_nat (k := 4) hb.1 (by decide) hn4
    have e4 : (kindOf 3).wrap (n4 : Int) = (n4 : Int) := wrap64 (by omega) (by omega)
    obtain ⟨n5, hn5, hn5'⟩ : ∃ n : Nat, c % 5 = (n : Int) ∧ n < 5 := ⟨(c % 5).toNat, by omega, by omega⟩
    have r5 := rem_nat (k := 5) hc.1 (by decide) hn5
    have e5 : (kindOf 3).wrap (n5 : Int) = (n5 : Int) := wrap64 (by omega) (by omega)
    simp only [go_sem, act9, in9, body9, loops9, lC, rC, cf9, f1, f2, f3, f4, f5, f6, f7, hf, hx, r9, hq1, hq2, r4, e4, r5, e5]
    refine (enter_w T hX (by omega) hn4' hn5').use ?_
    rintro r M1 w1 ⟨⟨v, rfl⟩, hS, b1⟩
    simp only [go_sem]
    exact ⟨⟨by simp [Tr.get_set, f1], by simp [Tr.get_set, f2], by simp [Tr.get_set, f3], by simp [Tr.get_set, f4], by simp [Tr.get_set, f5], by simp [Tr.get_set, f6], by simp [Tr.get_set, f7]⟩, w1, hS, b1⟩
  · have r9 : arithI .rem 4 a 9 = some (.int 4 6) := rem_nat (k := 9) ha.1 (by decide) e
    simp only [go_sem, act9, in9, body9, loops9, lC, rC, cf9, f1, f2, f3, f4, f5, f6, f7, hf, hx, r9, hq1, hq2]
    refine (leave_w T hX (by omega)).use ?_
    rintro r M1 w1 ⟨⟨v, rfl⟩, hS, b1⟩
    simp only [go_sem]
    exact ⟨⟨by simp [Tr.get_set, f1], by simp [Tr.get_set, f2], by simp [Tr.get_set, f3], by simp [Tr.get_set, f4], by simp [Tr.get_set, f5], by simp [Tr.get_set, f6], by simp [Tr.get_set, f7]⟩, w1, hS, b1⟩
  · have r9 : arithI .rem 4 a 9 = some (.int 4 7) := rem_nat (k := 9) ha.1 (by decide) e
    have eb : (kindOf 3).wrap b = b := wrap64 (by omega) (by omega)
    simp only [go_sem, act9, in9, body9, loops9, lC, rC, cf9, f1, f2, f3, f4, f5, f6, f7, hf, hx, r9, hq1, hq2, eb]
    refine (try_w T hX (by omega) hb.1).use ?_
    rintro r M1 w1 ⟨⟨v, rfl⟩, hS, b1⟩
    simp only [go_sem]
    exact ⟨⟨by simp [Tr.get_set, f1], by simp [Tr.get_set, f2], by simp [Tr.get_set, f3], by simp [Tr.get_set, f4], by simp [Tr.get_set, f5], by simp [Tr.get_set, f6], by simp [Tr.get_set, f7]⟩, w1, hS, b1⟩
  · have r9 : arithI .rem 4 a 9 = some (.int 4 8) := rem_nat (k := 9) ha.1 (by decide) e
    simp only [go_sem, act9, in9, body9, loops9, lC, rC, cf9, f1, f2, f3, f4, f5, f6, f7, hf, hx, r9, hq1, hq2]
    refine (value_w T h52 h16 h27 hb hX (by omega)).use ?_
    rintro r M1 w1 ⟨⟨v, rfl, hV⟩, b1⟩
    have b2 := But.fill w1 (.cells [.int 3 0, .int 3 0] false) (.cells [.int 3 v.k, .int 3 v.n] false)
    have w2 := w1.fill (.cells [.int 3 0, .int 3 0] false) (.cells [.int 3 v.k, .int 3 v.n] false)
    have x2 : ((M1.new (.cells [.int 3 0, .int 3 0] false)).put M1.next (.cells [.int 3 v.k, .int 3 v.n] false)).get M1.next = some (.cells [.int 3 v.k, .int 3 v.n] false) := by simp [Mem.put]
    have hlt : M1.next.num < ((M1.new (.cells [.int 3 0, .int 3 0] false)).put M1.next (.cells [.int 3 v.k, .int 3 v.n] false)).next.num := by show M1.next.num < M1.next.succ.num; rw [Pos.num_succ]; omega
    have hV2 := hV.wide w2 b2 (q := M1.next) (Nat.le_refl _) hlt
    simp only [go_sem, VlA, x2, f4]
    refine (throw_w T hV2 (by omega)).use ?_
    rintro r M3 w3 ⟨⟨d3, e3, rfl, hh⟩, b3⟩
    have x3 := b3.get _ _ (fun e => e (.inr rfl)) x2
    have b03 : But (fun p => ¬ P p) M M3 := (b1.trans (b2.any _)).trans (b3.mono fun p e h => e (.inl h))
    rcases hh with ⟨rfl, hS⟩ | ⟨he, hV3⟩
    · simp only [go_sem]
      exact ⟨⟨by simp [Tr.get_set, f1], by simp [Tr.get_set, f2], by simp [Tr.get_set, f3], by simp [Tr.get_set, f4], by simp [Tr.get_set, f5], by simp [Tr.get_set, f6], by simp [Tr.get_set, f7]⟩, w3, hS.less (fun p h => .inl h) (hX.but.trans b03), b03⟩
    · have g : (e3 != 0) = true := by simpa using he
      simp only [go_sem, VlA, g, x3, f3]
      refine (drop_w T hV3).use ?_
      rintro r M4 w4 ⟨rfl, hS, b4⟩
      have b04 := b03.trans (b4.mono fun p e h => e (.inl h))
      simp only [go_sem]
      exact ⟨⟨by simp [Tr.get_set, f1], by simp [Tr.get_set, f2], by simp [Tr.get_set, f3], by simp [Tr.get_set, f4], by simp [Tr.get_set, f5], by simp [Tr.get_set, f6], by simp [Tr.get_set, f7]⟩, w4, (hS.mono (Nat.le_succ k)).less (fun p h => .inl h) (hX.but.trans b04), b04⟩
end Go.Proofs.Ythpnhdopheofcaa
end
