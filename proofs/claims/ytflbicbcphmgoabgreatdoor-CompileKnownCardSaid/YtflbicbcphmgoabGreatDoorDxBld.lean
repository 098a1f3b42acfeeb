/-
  strings.Builder: what stands for its methods (bldF) is what they do.
-/
import Derived.Test.YtflbicbcphmgoabGreatDoorDxIns
import Derived.Shelf.Strings.Builder1
set_option linter.unusedSimpArgs false
set_option linter.unusedVariables false
set_option linter.unusedSectionVars false
set_option linter.unusedVariables false
set_option linter.unusedSimpArgs false
namespace Go.Proofs
open Go.Shelf Go.RowKit
variable {P : Program} {τ : Go.Shelf.Ren}

theorem setCell_heap {w : World} {b i : Nat} {c : Array Value} {e : TypeId} {fr : Nat × Nat} (h : w.heap[b]? = some (.cells c e fr)) (v : Value) :
    (w.setCell ⟨b, i, none⟩ v).heap[b]? = some (.cells (c.setIfInBounds i v) e fr) ∧ (w.setCell ⟨b, i, none⟩ v).heap.size = w.heap.size ∧ (∀ b', b' ≠ b → (w.setCell ⟨b, i, none⟩ v).heap[b']? = w.heap[b']?) := by
  refine ⟨?_, ?_, fun b' hb => ?_⟩
  · unfold World.setCell
    simp only [Array.getElem?_modify, if_true]
    rw [h]
    rfl
  · unfold World.setCell
    simp
  · unfold World.setCell
    simp only [Array.getElem?_modify]
    rw [if_neg (fun e => hb e.symm)]

/-- copyCheck: behind it the text's own address is there. (A seat's own walk: the shelf's copyCheck throws where a seat's refuses.) -/
def CcOk (P : Program) (τ : Go.Shelf.Ren) : Prop := ∀ (b : Nat) (u : Bool) (v : Value) (w : World), w.heap[b]? = some (.cells #[.pointer (if u then some ⟨b, 0, none⟩ else none), v] (τ.t 72) (0, 0)) →
    ∃ w1, Calls P (τ.f 240) #[.pointer (some ⟨b, 0, none⟩)] w (fun e w' => e = .returned (.tuple #[]) ∧ w' = w1) ∧ w1.heap[b]? = some (.cells #[.pointer (some ⟨b, 0, none⟩), v] (τ.t 72) (0, 0)) ∧ w1.heap.size = w.heap.size ∧
      (∀ b', b' ≠ b → w1.heap[b']? = w.heap[b']?) ∧ w1.os = w.os ∧ w1.tape = w.tape ∧ w1.output = w.output
theorem CcOk.of (h1 : ∀ (b : Nat) (w : World), w.cell? ⟨b, 0, none⟩ = some (.pointer (some ⟨b, 0, none⟩)) → Calls P (τ.f 240) #[.pointer (some ⟨b, 0, none⟩)] w fun e w' => e = .returned (.tuple #[]) ∧ w' = w)
    (h2 : ∀ (b : Nat) (w : World), w.cell? ⟨b, 0, none⟩ = some (.pointer none) → w.shape? b = some ((τ.t 72), 2) → w.frozen? ⟨b, 0, none⟩ = false → Calls P (τ.f 240) #[.pointer (some ⟨b, 0, none⟩)] w fun e w' => e = .returned (.tuple #[]) ∧ w' = w.setCell ⟨b, 0, none⟩ (.pointer (some ⟨b, 0, none⟩))) : CcOk P τ := by
  intro b u v w hb
  cases u with
  | true => exact ⟨w, h1 b w (by rw [Lib.cell_of_heap hb]; rfl), hb, rfl, fun _ _ => rfl, rfl, rfl, rfl⟩
  | false =>
    obtain ⟨k1, k2, k3⟩ := setCell_heap (i := 0) hb (.pointer (some ⟨b, 0, none⟩))
    exact ⟨_, h2 b w (by rw [Lib.cell_of_heap hb]; rfl) (by unfold World.shape?; rw [hb]; rfl) (Lib.frozen_of_heap hb 0), by rw [k1]; rfl, k2, k3, rfl, rfl, rfl⟩

/-- The walks that stand for WriteString. -/
structure WsCalls (P : Program) (τ : Go.Shelf.Ren) : Prop where
  cc : CcOk P τ
  t72 : ∃ f g, P.underlying (τ.t 72) = some (.struct #[f, g]) ∧ g.type = τ.t 37
  t37 : P.underlying (τ.t 37) = some (.slice (τ.t 5))
  t9 : P.underlying (τ.t 9) = some .string
  ws : ∀ (b : Nat) (v : Value) (s : ByteArray) {w w1 w2 : World} {ao : Option Addr} {n c : Nat} {T : TypeId},
    (Calls P (τ.f 240) #[.pointer (some ⟨b, 0, none⟩)] w fun e w' => e = .returned (.tuple #[]) ∧ w' = w1) →
    w1.heap[b]? = some (.cells #[.pointer (some ⟨b, 0, none⟩), v] T (0, 0)) →
    (∀ ty, (Builtin.append_ #[(τ.t 37), (τ.t 9)] ty #[v, .string s]).run P w1 = .ok (.slice ao n c) w2) →
    w2.heap[b]? = some (.cells #[.pointer (some ⟨b, 0, none⟩), v] T (0, 0)) →
    Calls P (τ.f 166) #[.pointer (some ⟨b, 0, none⟩), .string s] w fun e w' => e = .returned (.tuple #[.int .i64 s.size, .nilIface]) ∧ w' = w2.setCell ⟨b, 1, none⟩ (.slice ao n c)

set_option maxHeartbeats 2000000 in
set_option maxRecDepth 100000 in
theorem bld_wb (L : Lays.n167 P τ) (X : Builder.Extra P τ) (b : Nat) (v : Value) (x : Int) {w w1 w2 : World} {ao : Option Addr} {n c : Nat} {T : TypeId}
    (hcc : Calls P (τ.f 240) #[.pointer (some ⟨b, 0, none⟩)] w fun e w' => e = .returned (.tuple #[]) ∧ w' = w1)
    (h1 : w1.heap[b]? = some (.cells #[.pointer (some ⟨b, 0, none⟩), v] T (0, 0)))
    (hrun : ∀ ty, (Builtin.append_ #[(τ.t 37), (τ.t 37)] ty #[v, .slice (some ⟨w1.heap.size, 0, none⟩) 1 1]).run P (w1.alloc (.cells #[.int .u8 x] (τ.t 5))) = .ok (.slice ao n c) w2)
    (h2 : w2.heap[b]? = some (.cells #[.pointer (some ⟨b, 0, none⟩), v] T (0, 0))) :
    Calls P (τ.f 167) #[.pointer (some ⟨b, 0, none⟩), .int .u8 x] w fun e w' => e = .returned .nilIface ∧ w' = w2.setCell ⟨b, 1, none⟩ (.slice ao n c) := by
  have mixed := L.mixed
  have t72 := L.t72; have a72 := L.a72; have z72 := L.z72; have v72 := L.v72; have u72 := run_underlying L.t72
  have t70 := L.t70; have a70 := L.a70; have z70 := L.z70; have v70 := L.v70; have u70 := run_underlying L.t70
  have t5 := L.t5; have a5 := L.a5; have z5 := L.z5; have v5 := L.v5; have u5 := run_underlying L.t5
  have t37 := L.t37; have a37 := L.a37; have z37 := L.z37; have v37 := L.v37; have u37 := run_underlying L.t37
  have t9 := L.t9; have a9 := L.a9; have z9 := L.z9; have v9 := L.v9; have u9 := run_underlying L.t9
  have t4 := L.t4; have a4 := L.a4; have z4 := L.z4; have v4 := L.v4; have u4 := run_underlying L.t4
  have e240 : ∀ args w, (callFunc (τ.f 240) args).run P w = .ok (.enter (τ.f 240) args) w := enters_of L.f240 (by kernel_rfl) rfl
  have c0 : w1.cell? ⟨b, 0, none⟩ = some (.pointer (some ⟨b, 0, none⟩)) := by rw [Lib.cell_of_heap h1]; rfl
  have c1 : w1.cell? ⟨b, 1, none⟩ = some v := by rw [Lib.cell_of_heap h1]; rfl
  have d0 : w2.cell? ⟨b, 0, none⟩ = some (.pointer (some ⟨b, 0, none⟩)) := by rw [Lib.cell_of_heap h2]; rfl
  have d1 : w2.cell? ⟨b, 1, none⟩ = some v := by rw [Lib.cell_of_heap h2]; rfl
  have f1 : w2.frozen? ⟨b, 1, none⟩ = false := Lib.frozen_of_heap h2 1
  go_enter L.f167, Body.n167_ntmps τ
  go_wp2_with (go_at_fn (τ.f 240); refine hcc.mono ?_)
  rintro e w' ⟨rfl, rfl⟩
  go_wp2_with (at_builtin; refine Lib.wpList_append_run _ rfl _ _ _ _ rfl _ _ rfl rfl _ _ (hrun _) ?_)
  go_wp2
  go_ret
  exact ⟨rfl, rfl⟩

set_option maxHeartbeats 1000000 in
set_option maxRecDepth 100000 in
theorem bld_len (L : Lays.n170 P τ) (b : Nat) (p : Value) (ao : Option Addr) (n c : Nat) (w : World) {T : TypeId} (hb : w.heap[b]? = some (.cells #[p, .slice ao n c] T (0, 0))) :
    Calls P (τ.f 170) #[.pointer (some ⟨b, 0, none⟩)] w fun e w' => e = .returned (.int .i64 n) ∧ w' = w := by
  have c1 : w.cell? ⟨b, 1, none⟩ = some (.slice ao n c) := by rw [Lib.cell_of_heap hb]; rfl
  have mixed := L.mixed
  have t72 := L.t72; have a72 := L.a72; have z72 := L.z72; have v72 := L.v72; have u72 := run_underlying L.t72
  have t70 := L.t70; have a70 := L.a70; have z70 := L.z70; have v70 := L.v70; have u70 := run_underlying L.t70
  have t37 := L.t37; have a37 := L.a37; have z37 := L.z37; have v37 := L.v37; have u37 := run_underlying L.t37
  have t3 := L.t3; have a3 := L.a3; have z3 := L.z3; have v3 := L.v3; have u3 := run_underlying L.t3
  go_enter L.f170, Body.n170_ntmps τ
  go_wp2
  go_ret
  exact ⟨rfl, rfl⟩

set_option maxHeartbeats 2000000 in
set_option maxRecDepth 100000 in
theorem bld_str0 (L : Lays.n169 P τ) (X : Builder.Extra P τ) (b : Nat) (p : Value) (w : World) {T : TypeId} (hb : w.heap[b]? = some (.cells #[p, .slice none 0 0] T (0, 0))) :
    Calls P (τ.f 169) #[.pointer (some ⟨b, 0, none⟩)] w fun e w' => e = .returned (.string ⟨#[]⟩) ∧ w' = w.drew := by
  have hUS := Any.unsafeString_none L X
  have c1 : w.drew.cell? ⟨b, 1, none⟩ = some (.slice none 0 0) := by
    have : w.drew.heap[b]? = some (.cells #[p, .slice none 0 0] T (0, 0)) := hb
    rw [Lib.cell_of_heap this]; rfl
  have hSD : (Builtin.unsafeSliceData_ #[(τ.t 37)] (τ.t 127) #[.slice none 0 0]).run P w.drew = .ok (.pointer none) w.drew := rfl
  have mixed := L.mixed
  have t72 := L.t72; have a72 := L.a72; have z72 := L.z72; have v72 := L.v72; have u72 := run_underlying L.t72
  have t70 := L.t70; have a70 := L.a70; have z70 := L.z70; have v70 := L.v70; have u70 := run_underlying L.t70
  have t37 := L.t37; have a37 := L.a37; have z37 := L.z37; have v37 := L.v37; have u37 := run_underlying L.t37
  have t127 := L.t127; have a127 := L.a127; have z127 := L.z127; have v127 := L.v127; have u127 := run_underlying L.t127
  have t3 := L.t3; have a3 := L.a3; have z3 := L.z3; have v3 := L.v3; have u3 := run_underlying L.t3
  have t9 := L.t9; have a9 := L.a9; have z9 := L.z9; have v9 := L.v9; have u9 := run_underlying L.t9
  have t5 := X.t5; have a5 := X.a5; have z5 := X.z5; have v5 := X.v5; have u5 := run_underlying X.t5
  go_enter L.f169, Body.n169_ntmps τ
  go_wp2
  go_region_o
  all_goals (go_wp2; go_ret; exact ⟨rfl, rfl⟩)

set_option maxHeartbeats 2000000 in
set_option maxRecDepth 100000 in
theorem bld_str (L : Lays.n169 P τ) (X : Builder.Extra P τ) (b g cap : Nat) (p : Value) (l : List UInt8) (cur : Array Value) (w : World) {T : TypeId} (h0 : l ≠ []) (hcap : l.length ≤ cap) (hmax : l.length ≤ 17179869184)
    (hb : w.heap[b]? = some (.cells #[p, .slice (some ⟨g, 0, none⟩) l.length cap] T (0, 0))) (hg : w.heap[g]? = some (.cells cur (τ.t 5) (0, 0))) (hc : ∀ (j : Nat) (x : UInt8), l[j]? = some x → cur[j]? = some (Value.int .u8 x.toNat)) :
    Calls P (τ.f 169) #[.pointer (some ⟨b, 0, none⟩)] w fun e w' => e = .returned (.string ⟨l.toArray⟩) ∧ w' = w.drew.freeze ⟨g, 0, none⟩ l.length := by
  have hl0 : l.length ≠ 0 := by simpa using h0
  have c1 : w.drew.cell? ⟨b, 1, none⟩ = some (.slice (some ⟨g, 0, none⟩) l.length cap) := by
    have : w.drew.heap[b]? = some (.cells #[p, .slice (some ⟨g, 0, none⟩) l.length cap] T (0, 0)) := hb
    rw [Lib.cell_of_heap this]; rfl
  have hcs : l.length ≤ cur.size := by
    obtain ⟨x, hx⟩ : ∃ x, l[l.length - 1]? = some x := ⟨_, List.getElem?_eq_getElem (by omega)⟩
    have := (Array.getElem?_eq_some_iff.1 (hc _ x hx)).1
    omega
  have hSD : (Builtin.unsafeSliceData_ #[(τ.t 37)] (τ.t 127) #[.slice (some ⟨g, 0, none⟩) l.length cap]).run P w.drew = .ok (.pointer (some ⟨g, 0, none⟩)) w.drew :=
    Lib.run_unsafeSliceData_row _ _ _ _ _ _ (by omega)
  have hUS : (Builtin.unsafeString_ #[(τ.t 127), (τ.t 3)] (τ.t 9) #[.pointer (some ⟨g, 0, none⟩), .int .i64 l.length]).run P w.drew = .ok (.string ⟨l.toArray⟩) (w.drew.freeze ⟨g, 0, none⟩ l.length) := by
    refine Lib.run_unsafeString_row w.drew (τ.t 127) (τ.t 3) (τ.t 9) (τ.t 5) L.t127 X.cellsByte g cur.size (by have hg' : w.drew.heap[g]? = some (.cells cur (τ.t 5) (0, 0)) := hg; simp [World.shape?, hg']) l h0 (by omega) (by omega) ?_
    intro j x hx
    have hg' : w.drew.heap[g]? = some (.cells cur (τ.t 5) (0, 0)) := hg
    rw [Addr.add_lit, Lib.cell_of_heap hg', Nat.zero_add]
    exact hc j x hx
  have mixed := L.mixed
  have t72 := L.t72; have a72 := L.a72; have z72 := L.z72; have v72 := L.v72; have u72 := run_underlying L.t72
  have t70 := L.t70; have a70 := L.a70; have z70 := L.z70; have v70 := L.v70; have u70 := run_underlying L.t70
  have t37 := L.t37; have a37 := L.a37; have z37 := L.z37; have v37 := L.v37; have u37 := run_underlying L.t37
  have t127 := L.t127; have a127 := L.a127; have z127 := L.z127; have v127 := L.v127; have u127 := run_underlying L.t127
  have t3 := L.t3; have a3 := L.a3; have z3 := L.z3; have v3 := L.v3; have u3 := run_underlying L.t3
  have t9 := L.t9; have a9 := L.a9; have z9 := L.z9; have v9 := L.v9; have u9 := run_underlying L.t9
  have t5 := X.t5; have a5 := X.a5; have z5 := X.z5; have v5 := X.v5; have u5 := run_underlying X.t5
  go_enter L.f169, Body.n169_ntmps τ
  go_wp2
  go_region_o
  all_goals (go_wp2; go_ret; exact ⟨rfl, rfl⟩)
end Go.Proofs

namespace Go.Dx
open Go.Proofs
variable {P : Program}

theorem byteCells_text (k x : Nat) : (byteCells (textOf k x)).length = k ∧ ∀ j, j < k → (byteCells (textOf k x))[j]? = some (.int .u8 (byteAt x j)) := by
  refine ⟨by rw [byteCells_length, textOf_size], fun j hj => ?_⟩
  unfold byteCells textOf
  simp only [List.getElem?_map, bytesL_get x k 0 j hj, Option.map_some, Nat.zero_add]
  have : (UInt8.ofNat (byteAt x j)).toNat = byteAt x j := by
    rw [UInt8.toNat_ofNat']
    exact Nat.mod_eq_of_lt (byteAt_lt x j)
  rw [this]

/-- A block more, that bears no name. -/
theorem HRel.extra {ng : Nat} {ρ : Ren} {H : Heap} {w w' : World} {o : Obj} (h : HRel P ng ρ H w) (e : w'.heap = w.heap.push o) : HRel P ng ρ H w' where
  objs := fun p ob L h1 h2 h3 => (h.objs p ob L h1 h2 h3).same (by rw [e, Array.getElem?_push, if_neg (by have := h.bound p L h3; omega)])
  inj := h.inj
  bound := fun p L hp => by rw [e, Array.size_push]; have := h.bound p L hp; omega
  fresh := h.fresh
  globals := h.globals
  wf := h.wf
  loops := h.loops
theorem Step.extra {ρ : Ren} {H : Heap} {w w' : World} {o : Obj} (e : w'.heap = w.heap.push o) (h1 : w'.os = w.os) (h2 : w'.tape = w.tape) (h3 : w'.output = w.output) : Step ρ H w ρ H w' :=
  ⟨Ext.refl ρ, h1, h2, h3, by rw [e, Array.size_push]; omega, fun b hb _ => by rw [e, Array.getElem?_push, if_neg (by omega)], fun p L h1 h2 => .inr ⟨p, L, h1, h2, rfl⟩, Nat.le_refl _, fun p L h1 h2 => (by rw [h1] at h2; cases h2), fun _ _ h => h,
    fun _ _ _ h => ⟨h, fun L _ hb => by rw [e, Array.getElem?_push, if_neg (by omega)]⟩⟩

theorem bld_fin {ng : Nat} {ρ : Ren} {H : Heap} {w : World} (h : HRel P ng ρ H w) {p : Pos} {t e : Nat} {u : Bool} {q : Option (Pos × Nat)} {L : Loc} {v : Value} (hp : H.get p = some (.bld t e u q)) (hL : ρ p = some L) {q' : Option (Pos × Nat)} {v' : Value} (hq : BufAt ρ q' v')
    (hb : w.heap[L.b]? = some (.cells #[.pointer (some ⟨L.b, 0, none⟩), v] t (0, 0))) :
    HRel P ng ρ (H.put p (.bld t e true q')) (w.setCell ⟨L.b, 1, none⟩ v') ∧ Step ρ H w ρ (H.put p (.bld t e true q')) (w.setCell ⟨L.b, 1, none⟩ v') := by
  obtain ⟨h0, _⟩ := h.objs p _ L hp (by simp) hL
  obtain ⟨s1, s2, s3⟩ := setCell_heap (i := 1) hb v'
  exact ⟨h.turn hp (by simp) hL s2 s3 ⟨h0, v', by rw [s1]; rfl, hq⟩ (by simp) (show bldP P t = some e from h.loops p _ hp), Step.turn h hp (by simp) (by simp) hL s2 s3 rfl rfl rfl⟩

theorem bld_put {ng : Nat} {ρ : Ren} {H H' : Heap} {w : World} {t e st tx : TypeId} {i0 : TypeInfo} (hi : P.info? e = some i0) (hz0 : i0.zero = some (.int .u8 0)) (hz1 : i0.size = 1) (hz2 : i0.bytes = 1) (hst : P.underlying st = some (.slice e))
    (h : HRel P ng ρ H w) {p : Pos} {q : Option (Pos × Nat)} {L : Loc} (hp : H.get p = some (.bld t e true q)) (hL : ρ p = some L) {x : Value} {k n : Nat} {xs : List Value} (hsrc : Go.Src P 1 tx x k xs w) (hk : 0 < k) (hn : n < 256 ^ k)
    (hlen : xs.length = k) (hxs : ∀ j, j < k → xs[j]? = some (.int .u8 (byteAt n j)))
    (hput : (match q with
      | none => if k ≤ most then some ((H.new (.buf e k n)).2.put p (.bld t e true (some ((H.new (.buf e k n)).1, k)))) else none
      | some (q, l) =>
        match H.get q with
        | some (.buf e' l' m) => if e' = e ∧ l' = l ∧ l + k ≤ most then some (((H.put q .dead).new (.buf e (l + k) (m + n * 256 ^ l))).2.put p (.bld t e true (some (((H.put q .dead).new (.buf e (l + k) (m + n * 256 ^ l))).1, l + k)))) else none
        | _ => none) = some H') :
    ∃ v ao nn c w2 ρ', w.heap[L.b]? = some (.cells #[.pointer (some ⟨L.b, 0, none⟩), v] t (0, 0)) ∧ (∀ ty, (Builtin.append_ #[st, tx] ty #[v, x]).run P w = .ok (.slice ao nn c) w2) ∧
      w2.heap[L.b]? = some (.cells #[.pointer (some ⟨L.b, 0, none⟩), v] t (0, 0)) ∧ HRel P ng ρ' H' (w2.setCell ⟨L.b, 1, none⟩ (.slice ao nn c)) ∧ Step ρ H w ρ' H' (w2.setCell ⟨L.b, 1, none⟩ (.slice ao nn c)) := by
  obtain ⟨h0, v, hb, hq⟩ := h.objs p _ L hp (by simp) hL
  simp only [if_true] at hb
  have hLb : L.b < w.heap.size := h.bound p L hL
  have hsrc' : Go.Src P i0.size tx x k xs w := by rw [hz1]; exact hsrc
  have hmo : most = 17179869184 := rfl
  -- a new block
  have grown : ∀ {H1 : Heap} {l m : Nat} {olds : List Value} {base : Option Addr} {cp : Nat}, HRel P ng ρ H1 w → Step ρ H w ρ H1 w → H1.next = H.next → (H1.get p = some (.bld t e true q)) → v = .slice base l cp → olds.length = l →
      (∀ j, j < l → olds[j]? = some (.int .u8 (byteAt m j))) → m < 256 ^ l → (Builtin.firstCells i0.size l v).run P w.drew = .ok olds.toArray w.drew → cp < l + k → l + k ≤ most →
      ∃ ao nn c w2 ρ', (∀ ty, (Builtin.append_ #[st, tx] ty #[v, x]).run P w = .ok (.slice ao nn c) w2) ∧ w2.heap[L.b]? = some (.cells #[.pointer (some ⟨L.b, 0, none⟩), v] t (0, 0)) ∧
        HRel P ng ρ' ((H1.new (.buf e (l + k) (m + n * 256 ^ l))).2.put p (.bld t e true (some ((H1.new (.buf e (l + k) (m + n * 256 ^ l))).1, l + k)))) (w2.setCell ⟨L.b, 1, none⟩ (.slice ao nn c)) ∧
        Step ρ H w ρ' ((H1.new (.buf e (l + k) (m + n * 256 ^ l))).2.put p (.bld t e true (some ((H1.new (.buf e (l + k) (m + n * 256 ^ l))).1, l + k)))) (w2.setCell ⟨L.b, 1, none⟩ (.slice ao nn c)) := by
    intro H1 l m olds base cp hH1 hS1 hnx hp1 hv hol hoc hm hold hgr hle
    subst hv
    have hrun := fun ty => run_append_grow_src w st tx ty e i0 _ hst hi hz0 base l cp olds hold x k xs hsrc' hgr (by omega) (by rw [hz2]; exact growslice_fits hgr (by omega))
    generalize hG : grownCap w (l + k) cp e = G at hrun
    have hGn : l + k ≤ G := by rw [← hG]; exact grownCap_ge w _ _ _
    generalize hC : (olds ++ xs).toArray ++ Builtin.zeroCells (Value.int .u8 0).cells (G - (l + k)) = C at hrun
    have hCs : C.size = G := by rw [← hC]; simp [Builtin.zeroCells, Value.cells, hol, hlen]; omega
    have hCc : ∀ j, j < l + k → C[j]? = some (.int .u8 (byteAt (m + n * 256 ^ l) j)) := fun j hj => by
      rw [← hC, Array.getElem?_append_left (by simp [hol, hlen]; omega)]
      simp only [List.getElem?_toArray]
      by_cases hjl : j < l
      · rw [List.getElem?_append_left (by omega), hoc j hjl, byteAt_low _ _ _ _ hjl]
      · rw [List.getElem?_append_right (by omega), hol, hxs _ (by omega)]
        have := byteAt_high m n l (j - l) hm
        rw [show l + (j - l) = j by omega] at this
        rw [this]
    have hA := hH1.alloc (o := .cells C e) (ao := .buf e (l + k) (m + n * 256 ^ l)) (sz := C.size) (w' := w.drew.alloc (.cells C e)) rfl
      (fun ρ' _ => ⟨rfl, by omega, cat_lt hm hn, by rw [hCs]; exact hGn, C, by show (w.heap.push _)[w.heap.size]? = _; simp, rfl, hCc⟩) (by simp)
    have hSA := Step.alloc hH1 (o := .cells C e) (ao := .buf e (l + k) (m + n * 256 ^ l)) (sz := C.size) (w' := w.drew.alloc (.cells C e)) rfl rfl rfl rfl
    have hb2 : (w.drew.alloc (.cells C e)).heap[L.b]? = some (.cells #[.pointer (some ⟨L.b, 0, none⟩), .slice base l cp] t (0, 0)) := by
      show (w.heap.push _)[L.b]? = _
      rw [Array.getElem?_push, if_neg (by omega)]
      exact hb
    have hpn : p ≠ H1.next := fun e => by rw [e, hH1.fresh _ (Nat.le_refl _)] at hL; cases hL
    obtain ⟨f1, f2⟩ := bld_fin hA (p := p) (t := t) (e := e) (u := true) (q := q) (L := L) (q' := some (H1.next, l + k)) (v' := .slice (some ⟨w.heap.size, 0, none⟩) (l + k) G)
      (by simp [Heap.new, Heap.get, Tr.get_set, hpn]; exact hp1) (by simp [Ren.put, hpn]; exact hL) ⟨⟨w.heap.size, 0, C.size⟩, by simp [Ren.put], rfl, by rw [hCs]; exact hGn, by rw [hCs]⟩ hb2
    exact ⟨_, _, _, _, _, hrun, hb2, f1, (hS1.trans hSA).trans f2⟩
  cases q with
  | none =>
    simp only at hput
    split at hput
    · rename_i hle
      cases hput
      have hv : v = .slice none 0 0 := hq
      obtain ⟨ao, nn, c, w2, ρ', g1, g2, g3, g4⟩ := grown (l := 0) (m := 0) (olds := []) h (Step.refl _ _ _) rfl hp hv rfl (fun j hj => by omega) (by simp) (by rw [hv]; exact run_firstCells_none w.drew _ 0 0 0) (by omega) (by omega)
      simp only [Nat.zero_add, Nat.pow_zero, Nat.mul_one] at g3 g4
      exact ⟨v, ao, nn, c, w2, ρ', hb, g1, g2, g3, g4⟩
    · cases hput
  | some ql =>
    obtain ⟨q, l⟩ := ql
    simp only at hput
    split at hput
    · rename_i e' l' m hgq
      split at hput
      · rename_i hc
        obtain ⟨rfl, rfl, hle⟩ := hc
        cases hput
        obtain ⟨M, hM, hM0, hlM, hv⟩ := hq
        obtain ⟨_, hl0, hm, _, C, hC, hCs, hCc⟩ := h.objs q _ M hgq (by simp) hM
        have hpq : p ≠ q := fun e => by rw [e, hgq] at hp; cases hp
        have hMb : M.b ≠ L.b := fun e => hpq (h.inj p q L M (live_of_get hp (by simp)) (live_of_get hgq (by simp)) hL hM e.symm)
        have hcell : ∀ j, j < l' → w.cell? ⟨M.b, 0 + j, none⟩ = some (.int .u8 (byteAt m j)) := fun j hj => by rw [cell_eq hC, Nat.zero_add]; exact hCc j hj
        by_cases hroom : l' + k ≤ M.sz
        · have hrun := fun ty => run_append_room_src w st tx ty e' i0 hst hi M.b 0 l' M.sz x k xs hsrc' hroom
            (by rw [hlen]; intro j hj; rw [hz1, cell_eq hC, Array.getElem?_eq_getElem (by omega)]; rfl) (by intro j hj; unfold World.frozen?; rw [hC]; simp)
          rw [← hv, hz1, Nat.zero_add, Nat.mul_one] at hrun
          obtain ⟨s1, s2, s3, s4, s5, s6⟩ := setCells_heap M.b xs l' w C e' (0, 0) hC
          have hCc2 : ∀ j, j < l' + k → (wr C l' xs)[j]? = some (.int .u8 (byteAt (m + n * 256 ^ l') j)) := fun j hj => by
            rw [wr_get]
            by_cases hjl : j < l'
            · rw [if_neg (by omega), hCc j hjl, byteAt_low _ _ _ _ hjl]
            · rw [if_pos (by omega), hxs _ (by omega)]
              have := byteAt_high m n l' (j - l') hm
              rw [show l' + (j - l') = j by omega] at this
              rw [this]
          obtain ⟨r1, r2⟩ := h.rename hgq (by simp) (by simp) hM (ao := .buf e' (l' + k) (m + n * 256 ^ l')) (base := 0) (w' := w.setCells M.b l' xs) s2 s3 s4 s5 s6
            (fun ρ' _ => ⟨rfl, by omega, cat_lt hm hn, hroom, wr C l' xs, s1, by rw [wr_size]; exact hCs, hCc2⟩)
          have hb2 : (w.setCells M.b l' xs).heap[L.b]? = some (.cells #[.pointer (some ⟨L.b, 0, none⟩), v] t (0, 0)) := by rw [s3 _ (fun e => hMb e.symm)]; exact hb
          have hpn : p ≠ H.next := fun e => by rw [e, h.fresh _ (Nat.le_refl _)] at hL; cases hL
          obtain ⟨f1, f2⟩ := bld_fin r1 (p := p) (t := t) (e := e') (u := true) (q := some (q, l')) (L := L) (q' := some (H.next, l' + k)) (v' := .slice (some ⟨M.b, 0, none⟩) (l' + k) M.sz)
            (by simp [Heap.new, Heap.put, Heap.get, Tr.get_set, hpn, hpq]; exact hp) (by simp [Ren.put, hpn]; exact hL) ⟨⟨M.b, 0, M.sz⟩, by simp [Ren.put], rfl, hroom, rfl⟩ hb2
          exact ⟨v, _, _, _, _, _, hb, hrun, hb2, f1, r2.trans f2⟩
        · have hold : (Builtin.firstCells i0.size l' v).run P w.drew = .ok ((List.range l').map fun j => Value.int .u8 (byteAt m j)).toArray w.drew := by
            rw [hz1, hv]
            refine run_firstCells_some w.drew 1 l' ⟨M.b, 0, none⟩ l' M.sz _ (by simp) (fun j u hj => ?_)
            rw [Addr.add_lit]
            have hjl : j < l' := by have := (List.getElem?_eq_some_iff.1 hj).1; simpa using this
            simp [hjl] at hj
            rw [← hj]
            exact hcell j hjl
          obtain ⟨ao, nn, c, w2, ρ', g1, g2, g3, g4⟩ := grown (H1 := H.put q .dead) (l := l') (m := m) (h.kill q) (Step.kill q (by rw [hgq]; simp)) rfl
            (by simp [Heap.put, Heap.get, Tr.get_set, hpq]; exact hp) hv (by simp) (fun j hj => by simp [hj]) hm hold (by omega) hle
          exact ⟨v, ao, nn, c, w2, ρ', hb, g1, g2, g3, g4⟩
      · cases hput
    · cases hput

theorem HRel.killOff {ng : Nat} {ρ : Ren} {H : Heap} {w w' : World} (h : HRel P ng ρ H w) {q : Pos} {o : AO} {M : Loc} (hq : H.get q = some o) (hd : o ≠ .dead) (hro : ∀ t, o ≠ .ro t) (hM : ρ q = some M)
    (hs : w'.heap.size = w.heap.size) (hold : ∀ b, b ≠ M.b → w'.heap[b]? = w.heap[b]?) (h1 : w'.os = w.os) (h2 : w'.tape = w.tape) (h3 : w'.output = w.output) :
    HRel P ng ρ (H.put q .dead) w' ∧ Step ρ H w ρ (H.put q .dead) w' := by
  have hk := h.kill q
  have hlive : ∀ r, (H.put q .dead).live r = true → H.live r = true ∧ r ≠ q := by
    intro r hr
    obtain ⟨o', ho', hne⟩ := live_get hr
    have hg : (H.put q .dead).get r = if r = q then some .dead else H.get r := by simp [Heap.put, Heap.get, Tr.get_set]
    rw [hg] at ho'
    split at ho'
    · cases ho'; exact absurd rfl hne
    · rename_i e; exact ⟨live_of_get ho' hne, e⟩
  have hne : ∀ r L, H.live r = true → r ≠ q → ρ r = some L → L.b ≠ M.b := fun r L hr e hL eb => e (h.inj r q L M hr (live_of_get hq hd) hL hM eb)
  refine ⟨⟨?_, hk.inj, fun p L hp => by rw [hs]; exact hk.bound p L hp, hk.fresh, hk.globals, hk.wf, hk.loops⟩, ?_⟩
  · intro r o' L hr hd' hL
    obtain ⟨l1, l2⟩ := hlive r (live_of_get hr hd')
    exact (hk.objs r o' L hr hd' hL).same (hold _ (hne r L l1 l2 hL))
  · have hS := Step.kill (ρ := ρ) (w := w) q (H := H) (by rw [hq]; intro t e; cases e; exact hro t rfl)
    refine ⟨hS.ext, h1, h2, h3, by rw [hs]; exact Nat.le_refl _, fun b hb hn => hold b fun e => hn q M (live_of_get hq hd) hM e.symm, fun p L hl hp => .inr ⟨p, L, (hlive p hl).1, hp, rfl⟩, hS.next, hS.new, hS.old, fun p hp t hg => ?_⟩
    have e : p ≠ q := fun e => by subst e; rw [hg] at hq; cases hq; exact hro t rfl
    exact ⟨(hS.keep p hp t hg).1, fun L hL _ => hold _ (hne p L (live_of_get hg (by simp)) e hL)⟩

theorem freeze_heap (w : World) (b n : Nat) : (w.freeze ⟨b, 0, none⟩ n).heap.size = w.heap.size ∧ (∀ b', b' ≠ b → (w.freeze ⟨b, 0, none⟩ n).heap[b']? = w.heap[b']?) ∧ (w.freeze ⟨b, 0, none⟩ n).os = w.os ∧ (w.freeze ⟨b, 0, none⟩ n).tape = w.tape ∧ (w.freeze ⟨b, 0, none⟩ n).output = w.output := by
  unfold World.freeze
  split
  · exact ⟨rfl, fun _ _ => rfl, rfl, rfl, rfl⟩
  · refine ⟨by simp, fun b' hb => ?_, rfl, rfl, rfl⟩
    simp only [Array.getElem?_modify]
    rw [if_neg (fun e => hb e.symm)]

theorem act_bld {T c : Nat} (hc : c < 4) (hT : T < 200000) {gs : AV} {H : Heap} {r : Option (AV × Heap)} (h : actF (4 * T + c + 1) gs H = r) : bldF T c gs H = r := by
  have e : actF (4 * T + c + 1) gs H = bldF ((4 * T + c) / 4) ((4 * T + c) % 4) gs H := by
    unfold actF
    have hb : Nat.ble 1048576 (4 * T + c) = false := by
      cases hb : Nat.ble 1048576 (4 * T + c) with
      | false => rfl
      | true => have := Nat.le_of_ble_eq_true hb; omega
    simp only [hb]
  rw [e, show (4 * T + c) / 4 = T by omega, show (4 * T + c) % 4 = c by omega] at h
  exact h

section
variable {τ : Go.Shelf.Ren} {ng : Nat}

theorem bld_elem (t72 : ∃ f g, P.underlying (τ.t 72) = some (.struct #[f, g]) ∧ g.type = τ.t 37) (t37 : P.underlying (τ.t 37) = some (.slice (τ.t 5))) {e : Nat} (h : bldP P (τ.t 72) = some e) : e = τ.t 5 := by
  obtain ⟨f, g, h1, h2⟩ := t72
  unfold bldP at h
  rw [h1] at h
  simp only [List.getElem?_toArray, List.getElem?_cons_zero, List.getElem?_cons_succ] at h
  split at h
  · rename_i u e' h3 h4
    rw [h2, t37] at h4
    cases h4
    split at h
    · split at h
      · cases h; rfl
      · cases h
    · cases h
  · cases h

/-- Bytes are put behind. -/
theorem put_calls {ρ : Ren} {H H' : Heap} {w : World} (hcc : CcOk P τ) (t72 : ∃ f g, P.underlying (τ.t 72) = some (.struct #[f, g]) ∧ g.type = τ.t 37) (X : Builder.Extra P τ) (t37 : P.underlying (τ.t 37) = some (.slice (τ.t 5))) (hH : HRel P ng ρ H w) {p : Pos} {Lp : Loc} (hLp : ρ p = some Lp) {k n : Nat} (hn : n < 256 ^ k) (hput : bldPut (τ.t 72) H p k n = some H')
    {tx : TypeId} {x : World → Value} {W : World → World} (hW : ∀ w1 : World, (W w1).heap = w1.heap ∨ ∃ o, (W w1).heap = w1.heap.push o) (hos : ∀ w1 : World, (W w1).os = w1.os ∧ (W w1).tape = w1.tape ∧ (W w1).output = w1.output)
    {xs : List Value} (hsrc : ∀ w1 : World, Go.Src P 1 tx (x w1) k xs (W w1)) (hlen : xs.length = k) (hxs : ∀ j, j < k → xs[j]? = some (.int .u8 (byteAt n j)))
    {f : FuncId} {args : Array Value} {r : Value}
    (hwalk : ∀ {v : Value} {w1 w2 : World} {ao : Option Addr} {m c : Nat}, Calls P (τ.f 240) #[.pointer (some ⟨Lp.b, 0, none⟩)] w (fun e w' => e = .returned (.tuple #[]) ∧ w' = w1) →
      w1.heap[Lp.b]? = some (.cells #[.pointer (some ⟨Lp.b, 0, none⟩), v] (τ.t 72) (0, 0)) → (∀ ty, (Builtin.append_ #[(τ.t 37), tx] ty #[v, x w1]).run P (W w1) = .ok (.slice ao m c) w2) →
      w2.heap[Lp.b]? = some (.cells #[.pointer (some ⟨Lp.b, 0, none⟩), v] (τ.t 72) (0, 0)) → Calls P f args w fun e w' => e = .returned r ∧ w' = w2.setCell ⟨Lp.b, 1, none⟩ (.slice ao m c)) :
    Calls P f args w fun e w' => ∃ ρ', e = .returned r ∧ HRel P ng ρ' H' w' ∧ Step ρ H w ρ' H' w' := by
  unfold bldPut at hput
  split at hput
  · rename_i t e u q hp
    split at hput
    · rename_i ht
      subst ht
      obtain ⟨hb0, v0, hb, hq⟩ := hH.objs p _ Lp hp (by simp) hLp
      have hbp : bldP P (τ.t 72) = some e := hH.loops p _ hp
      have he : e = τ.t 5 := bld_elem t72 t37 hbp
      subst he
      obtain ⟨i0, hi, hz0, hz1, hz2⟩ := info_parts X.infoByte
      obtain ⟨w1, cc, c1, c2, c3, c4, c5, c6⟩ := hcc Lp.b u v0 w hb
      have h1 : HRel P ng ρ (H.put p (.bld (τ.t 72) (τ.t 5) true q)) w1 := hH.turn hp (by simp) hLp c2 c3 ⟨hb0, v0, by simpa using c1, hq⟩ (by simp) hbp
      have s1 : Step ρ H w ρ (H.put p (.bld (τ.t 72) (τ.t 5) true q)) w1 := Step.turn hH hp (by simp) (by simp) hLp c2 c3 c4 c5 c6
      have hp1 : (H.put p (.bld (τ.t 72) (τ.t 5) true q)).get p = some (.bld (τ.t 72) (τ.t 5) true q) := by simp [Heap.put, Heap.get, Tr.get_set]
      obtain ⟨o1, o2, o3⟩ := hos w1
      have h2 : HRel P ng ρ (H.put p (.bld (τ.t 72) (τ.t 5) true q)) (W w1) := by
        rcases hW w1 with e | ⟨o, e⟩
        · exact h1.drew e
        · exact h1.extra e
      have s2 : Step ρ (H.put p (.bld (τ.t 72) (τ.t 5) true q)) w1 ρ (H.put p (.bld (τ.t 72) (τ.t 5) true q)) (W w1) := by
        rcases hW w1 with e | ⟨o, e⟩
        · exact Step.drew e o1 o2 o3
        · exact Step.extra e o1 o2 o3
      have hLb : Lp.b < w1.heap.size := h1.bound p Lp hLp
      have c1' : (W w1).heap[Lp.b]? = some (.cells #[.pointer (some ⟨Lp.b, 0, none⟩), v0] (τ.t 72) (0, 0)) := by
        rcases hW w1 with e | ⟨o, e⟩
        · rw [e]; exact c1
        · rw [e, Array.getElem?_push, if_neg (by omega)]; exact c1
      split at hput
      · rename_i hk0
        cases hput
        subst hk0
        have hxs0 : xs = [] := List.eq_nil_of_length_eq_zero hlen
        subst hxs0
        have hv : ∃ base l c, v0 = .slice base l c ∧ l ≤ c := by
          cases q with
          | none => exact ⟨none, 0, 0, hq, Nat.le_refl _⟩
          | some ql => obtain ⟨M, _, _, hle, hv⟩ := hq; exact ⟨_, _, _, hv, hle⟩
        obtain ⟨base, l, c, hv, hlc⟩ := hv
        subst hv
        have hk := (hsrc w1).kind
        have hrun : ∀ ty, (Builtin.append_ #[(τ.t 37), tx] ty #[.slice base l c, x w1]).run P (W w1) = .ok (.slice base (l + 0) c) (W w1) := fun ty => by
          obtain ⟨d, hd1, hd2⟩ : ∃ d, P.underlying tx = some d ∧ ((∃ e', d = .slice e') ∨ d = .string) := by
            rcases hk with ⟨e', h⟩ | h
            · exact ⟨_, h, .inl ⟨_, rfl⟩⟩
            · exact ⟨_, h, .inr rfl⟩
          exact run_append_fits (ts := #[τ.t 37, tx]) rfl rfl t37 (size := 1) (by unfold sizeP; rw [hi]; simp [hz1]) hi (by omega) (.cells (nw := #[]) d hd1 hd2 ((hsrc w1).len _) (hsrc w1).cells) hlc (by cases base <;> rfl) ty
        refine (hwalk cc c1 hrun c1').mono ?_
        rintro e w' ⟨rfl, rfl⟩
        obtain ⟨f1, f2⟩ := bld_fin h2 hp1 hLp (q' := q) (v' := .slice base (l + 0) c) hq c1'
        exact ⟨ρ, rfl, f1, (s1.trans s2).trans f2⟩
      · rename_i hk0
        obtain ⟨v, ao, nn, c, w2, ρ', g1, g2, g3, g4, g5⟩ := bld_put hi hz0 hz1 hz2 t37 h2 hp1 hLp (hsrc w1) (by omega) hn hlen hxs (H' := H') (by
          rw [← hput]
          cases q <;> rfl)
        have hvv : v = v0 := by rw [c1'] at g1; simpa using g1.symm
        subst hvv
        refine (hwalk cc c1 g2 g3).mono ?_
        rintro e w' ⟨rfl, rfl⟩
        exact ⟨ρ', rfl, g4, (s1.trans s2).trans g5⟩
    · cases hput
  · cases hput

theorem ws_ok (E : WsCalls P τ) (X : Builder.Extra P τ) {f k : Nat} (hf : f = τ.f 166) (hk : k = 4 * τ.t 72 + 1) (hT : τ.t 72 < 200000) (hfn : ∃ fn, P.funcs[f]? = some fn ∧ fn.body.isSome = true ∧ fn.name ≠ "runtime.NumGoroutine") : ActOk P ng f k := by
  refine ⟨hfn, ?_⟩
  subst hf hk
  intro gs v H H' ha ρ w args hH hR hl
  replace ha : bldF (τ.t 72) 0 gs H = some (v, H') := act_bld (c := 0) (by decide) hT ha
  unfold bldF at ha
  simp only at ha
  split at ha
  · rename_i p l x
    simp only [Option.map_eq_some_iff] at ha
    obtain ⟨H2, hput, e⟩ := ha
    cases e
    obtain ⟨x1, r1, e1, ⟨Lp, hLp, hx1⟩, x2, r2, e2, ⟨hxl, hx2⟩, e3⟩ := hR
    cases hx1
    cases hx2
    subst e3 e2
    have hargs : args = #[.pointer (some ⟨Lp.b, Lp.base + 0, none⟩), .string (textOf l x)] := by
      apply Array.ext'
      rw [e1]
    subst hargs
    have hbase : Lp.base = 0 := by
      unfold bldPut at hput
      split at hput
      · rename_i hp; exact (hH.objs p _ Lp hp (by simp) hLp).1
      · cases hput
    rw [hbase]
    obtain ⟨b1, b2⟩ := byteCells_text l x
    have hs : (textOf l x).size = l := textOf_size l x
    refine (put_calls E.cc E.t72 X E.t37 hH hLp hxl hput (tx := τ.t 9) (x := fun _ => .string (textOf l x)) (W := fun w => w) (fun _ => .inl rfl) (fun _ => ⟨rfl, rfl, rfl⟩) (fun w1 => by have := Go.Src.ofString w1 E.t9 (textOf l x); rwa [hs] at this) b1 b2
      (r := .tuple #[.int .i64 l, .nilIface]) (fun cc c1 hrun c2 => by have := E.ws Lp.b _ (textOf l x) cc c1 hrun c2; rwa [hs] at this)).mono ?_
    rintro e w' ⟨ρ', rfl, k1, k2⟩
    exact ⟨_, ρ', rfl, ⟨_, rfl, rfl, _, _, rfl, ⟨by decide, rfl⟩, _, _, rfl, rfl, rfl⟩, k1, k2⟩
  · cases ha

theorem wb_ok (L : Lays.n167 P τ) (X : Builder.Extra P τ) {f k : Nat} (hf : f = τ.f 167) (hk : k = 4 * τ.t 72 + 2) (hT : τ.t 72 < 200000) (hfn : ∃ fn, P.funcs[f]? = some fn ∧ fn.body.isSome = true ∧ fn.name ≠ "runtime.NumGoroutine") : ActOk P ng f k := by
  refine ⟨hfn, ?_⟩
  subst hf hk
  intro gs v H H' ha ρ w args hH hR hl
  replace ha : bldF (τ.t 72) 1 gs H = some (v, H') := act_bld (c := 1) (by decide) hT ha
  unfold bldF at ha
  simp only at ha
  split at ha
  · rename_i p b
    split at ha
    · rename_i hb
      simp only [Option.map_eq_some_iff] at ha
      obtain ⟨H2, hput, e⟩ := ha
      cases e
      obtain ⟨x1, r1, e1, ⟨Lp, hLp, hx1⟩, x2, r2, e2, ⟨_, hx2⟩, e3⟩ := hR
      cases hx1
      cases hx2
      subst e3 e2
      have hargs : args = #[.pointer (some ⟨Lp.b, Lp.base + 0, none⟩), .int .u8 b] := by
        apply Array.ext'
        rw [e1]
        rfl
      subst hargs
      have hbase : Lp.base = 0 := by
        unfold bldPut at hput
        split at hput
        · rename_i hp; exact (hH.objs p _ Lp hp (by simp) hLp).1
        · cases hput
      rw [hbase]
      refine (put_calls (CcOk.of (fun b w h => Any.Builder_copyCheck_used { L with } X.toX72 b w h) (fun b w h h' h'' => Any.Builder_copyCheck_fresh { L with } X.toX72 b w h h' h'')) ⟨_, _, L.t72, rfl⟩ X L.t37 hH hLp (n := b) (by simpa using hb) hput (tx := τ.t 37) (x := fun w1 => .slice (some ⟨w1.heap.size, 0, none⟩) 1 1) (W := fun w1 => w1.alloc (.cells #[.int .u8 b] (τ.t 5))) (fun _ => .inr ⟨_, rfl⟩) (fun _ => ⟨rfl, rfl, rfl⟩)
        (xs := [.int .u8 b]) (fun w1 => Go.Src.ofSlice _ L.t37 ⟨w1.heap.size, 0, none⟩ 1 1 [.int .u8 b] rfl (fun j u hj => by
          match j, hj with
          | 0, hj =>
            simp at hj
            subst hj
            have hh : (w1.alloc (.cells #[Value.int .u8 b] (τ.t 5))).heap[w1.heap.size]? = some (.cells #[Value.int .u8 b] (τ.t 5) (0, 0)) := by
              show (w1.heap.push _)[w1.heap.size]? = _
              simp
            rw [Addr.add_lit, Lib.cell_of_heap hh]
            rfl) (fun u hu => by simp at hu; subst hu; rfl)) rfl (fun j hj => by
          obtain rfl : j = 0 := by omega
          simp [byteAt, Nat.mod_eq_of_lt hb])
        (r := .nilIface) (fun cc c1 hrun c2 => bld_wb L X Lp.b _ b cc c1 hrun c2)).mono ?_
      rintro e w' ⟨ρ', rfl, k1, k2⟩
      exact ⟨_, ρ', rfl, rfl, k1, k2⟩
    · cases ha
  · cases ha

theorem str_ok (L : Lays.n169 P τ) (X : Builder.Extra P τ) {f k : Nat} (hf : f = τ.f 169) (hk : k = 4 * τ.t 72 + 3) (hT : τ.t 72 < 200000) (hfn : ∃ fn, P.funcs[f]? = some fn ∧ fn.body.isSome = true ∧ fn.name ≠ "runtime.NumGoroutine") : ActOk P ng f k := by
  refine ⟨hfn, ?_⟩
  subst hf hk
  intro gs v H H' ha ρ w args hH hR hl
  replace ha : bldF (τ.t 72) 2 gs H = some (v, H') := act_bld (c := 2) (by decide) hT ha
  unfold bldF at ha
  simp only at ha
  split at ha
  · rename_i p
    obtain ⟨x1, r1, e1, ⟨Lp, hLp, hx1⟩, e2⟩ := hR
    cases hx1
    subst e2
    have hargs : args = #[.pointer (some ⟨Lp.b, Lp.base + 0, none⟩)] := by
      apply Array.ext'
      rw [e1]
    subst hargs
    split at ha
    · rename_i t e u hp
      split at ha
      · rename_i ht
        subst ht
        cases ha
        obtain ⟨hb0, v0, hb, hq⟩ := hH.objs p _ Lp hp (by simp) hLp
        have hq : v0 = .slice none 0 0 := hq
        subst hq
        rw [hb0]
        refine (bld_str0 L X Lp.b _ w hb).mono ?_
        rintro e w' ⟨rfl, rfl⟩
        exact ⟨_, ρ, rfl, ⟨by simp, rfl⟩, (hH.kill p).drew rfl, (Step.kill p (by rw [hp]; simp)).trans (Step.drew rfl rfl rfl rfl)⟩
      · cases ha
    · rename_i t e u q l hp
      split at ha
      · rename_i e' l' m hgq
        split at ha
        · rename_i hc
          obtain ⟨rfl, rfl, rfl, hlq⟩ := hc
          cases ha
          obtain ⟨hb0, v0, hb, M, hM, hM0, hlM, hv⟩ := hH.objs p _ Lp hp (by simp) hLp
          subst hv
          obtain ⟨_, hl0, hm, _, C, hC, hCs, hCc⟩ := hH.objs q _ M hgq (by simp) hM
          have hbp : bldP P (τ.t 72) = some e' := hH.loops p _ hp
          have he : e' = τ.t 5 := bld_elem ⟨_, _, L.t72, rfl⟩ L.t37 hbp
          subst he
          rw [hb0]
          have hbl : (bytesL m 0 l').length = l' := bytesL_length m 0 l'
          have hpq : p ≠ q := fun e => by rw [e, hgq] at hp; cases hp
          have hmax : l' ≤ 17179869184 := hlq
          have hcall := bld_str L X Lp.b M.b M.sz _ (bytesL m 0 l') C w (fun e => by rw [e] at hbl; simp at hbl; omega) (by rw [hbl]; exact hlM) (by rw [hbl]; exact hmax) (by rw [hbl]; exact hb) hC (fun j x hx => by
            have hj : j < l' := by have := (List.getElem?_eq_some_iff.1 hx).1; omega
            rw [bytesL_get m l' 0 j hj] at hx
            cases hx
            rw [hCc j hj, Nat.zero_add, UInt8.toNat_ofNat', Nat.mod_eq_of_lt (byteAt_lt m j)])
          refine hcall.mono ?_
          rintro e w' ⟨rfl, rfl⟩
          rw [hbl]
          obtain ⟨z1, z2, z3, z4, z5⟩ := freeze_heap w.drew M.b l'
          obtain ⟨k1, k2⟩ := hH.killOff hgq (by simp) (by simp) hM (w' := w.drew.freeze ⟨M.b, 0, none⟩ l') z1 z2 z3 z4 z5
          have hp2 : (H.put q .dead).get p = some (.bld (τ.t 72) (τ.t 5) u (some (q, l'))) := by simp [Heap.put, Heap.get, Tr.get_set, hpq]; exact hp
          exact ⟨_, ρ, rfl, ⟨hm, rfl⟩, k1.kill p, k2.trans (Step.kill p (by rw [hp2]; simp))⟩
        · cases ha
      · cases ha
    · cases ha
  · cases ha

theorem len_ok (L : Lays.n170 P τ) {f k : Nat} (hf : f = τ.f 170) (hk : k = 4 * τ.t 72 + 4) (hT : τ.t 72 < 200000) (hfn : ∃ fn, P.funcs[f]? = some fn ∧ fn.body.isSome = true ∧ fn.name ≠ "runtime.NumGoroutine") : ActOk P ng f k := by
  refine ⟨hfn, ?_⟩
  subst hf hk
  intro gs v H H' ha ρ w args hH hR hl
  replace ha : bldF (τ.t 72) 3 gs H = some (v, H') := act_bld (c := 3) (by decide) hT ha
  unfold bldF at ha
  simp only at ha
  split at ha
  · rename_i p
    obtain ⟨x1, r1, e1, ⟨Lp, hLp, hx1⟩, e2⟩ := hR
    cases hx1
    subst e2
    have hargs : args = #[.pointer (some ⟨Lp.b, Lp.base + 0, none⟩)] := by
      apply Array.ext'
      rw [e1]
    subst hargs
    split at ha
    · rename_i t e u hp
      cases ha
      obtain ⟨hb0, v0, hb, hq⟩ := hH.objs p _ Lp hp (by simp) hLp
      have hq : v0 = .slice none 0 0 := hq
      subst hq
      rw [hb0]
      refine (bld_len L Lp.b _ none 0 0 w hb).mono ?_
      rintro e w' ⟨rfl, rfl⟩
      exact ⟨_, ρ, rfl, ⟨by decide, rfl⟩, hH, Step.refl _ _ _⟩
    · rename_i t e u q l hp
      cases ha
      obtain ⟨hb0, v0, hb, M, hM, hM0, hlM, hv⟩ := hH.objs p _ Lp hp (by simp) hLp
      subst hv
      rw [hb0]
      refine (bld_len L Lp.b _ _ l _ w hb).mono ?_
      rintro e w' ⟨rfl, rfl⟩
      exact ⟨_, ρ, rfl, ⟨by decide, rfl⟩, hH, Step.refl _ _ _⟩
    · cases ha
  · cases ha
end
end Go.Dx
