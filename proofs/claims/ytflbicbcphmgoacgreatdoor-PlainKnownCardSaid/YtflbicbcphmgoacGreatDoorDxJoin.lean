/-
  strings.Join, strings.Compare: what stands for them (natJoin, natCompare) is what they answer.
-/
import Derived.Test.YtflbicbcphmgoacGreatDoorDxIns
import Derived.Test.YtflbicbcphmgoacGreatDoorDxIdx
import Derived.Shelf.Small.Strs
import Derived.Shelf.Strings.OnBuilder
set_option linter.unusedSimpArgs false
set_option linter.unusedVariables false
set_option linter.unusedSectionVars false
set_option linter.unusedVariables false
set_option linter.unusedSimpArgs false
namespace Go.Dx
open Go.Proofs
variable {P : Program}

/-- Texts behind a text, each behind a separator. -/
def joinTailN (sl sn : Nat) : AV → Nat → Nat → Option (Nat × Nat)
  | .nil, l, n => some (l, n)
  | .cons (.str k x) r, l, n => joinTailN sl sn r (l + sl + k) (n + sn * 256 ^ l + x * 256 ^ (l + sl))
  | _, _, _ => none
def joinN (sl sn : Nat) : AV → Option (Nat × Nat)
  | .nil => some (0, 0)
  | .cons (.str k x) r => joinTailN sl sn r k x
  | _ => none

theorem joinTail_rel {ρ : Ren} {sl sn : Nat} (hs : sn < 256 ^ sl) : ∀ {cs : AV} {xs : List Value} {l n l' n' : Nat}, RX ρ cs xs → joinTailN sl sn cs l n = some (l', n') → n < 256 ^ l →
    ∃ bs : List ByteArray, xs = bs.map Value.string ∧ bytesL n' 0 l' = bytesL n 0 l ++ Lib.joinTail (bytesL sn 0 sl) (bs.map (·.data.toList)) ∧ n' < 256 ^ l' := by
  intro cs
  induction cs with
  | nil =>
    intro xs l n l' n' hx h hn
    cases h
    have hx : xs = [] := hx
    subst hx
    exact ⟨[], rfl, by simp [Lib.joinTail], hn⟩
  | cons a r _ ih =>
    intro xs l n l' n' hx h hn
    cases a with
    | str k x =>
      obtain ⟨y, ys, rfl, ⟨hk, hy⟩, hr⟩ := hx
      cases hy
      have h1 := cat_lt hn hs
      have h2 := cat_lt h1 hk
      obtain ⟨bs, rfl, e, hlt⟩ := ih hr (show joinTailN sl sn r (l + sl + k) (n + sn * 256 ^ l + x * 256 ^ (l + sl)) = some (l', n') from h) h2
      refine ⟨textOf k x :: bs, rfl, ?_, hlt⟩
      rw [e, bytesL_append _ _ _ _ h1, bytesL_append _ _ _ _ hn]
      simp [Lib.joinTail, textOf]
    | _ => cases h
  | _ => intro xs l n l' n' hx h hn; cases h

theorem join_rel {ρ : Ren} {sl sn : Nat} (hs : sn < 256 ^ sl) {cs : AV} {xs : List Value} {l' n' : Nat} (hx : RX ρ cs xs) (h : joinN sl sn cs = some (l', n')) :
    ∃ bs : List ByteArray, xs = bs.map Value.string ∧ bytesL n' 0 l' = Lib.join (bs.map (·.data.toList)) (bytesL sn 0 sl) ∧ n' < 256 ^ l' := by
  cases cs with
  | nil =>
    cases h
    have hx : xs = [] := hx
    subst hx
    exact ⟨[], rfl, rfl, by simp⟩
  | cons a r =>
    cases a with
    | str k x =>
      obtain ⟨y, ys, rfl, ⟨hk, hy⟩, hr⟩ := hx
      cases hy
      obtain ⟨bs, rfl, e, hlt⟩ := joinTail_rel hs hr (show joinTailN sl sn r k x = some (l', n') from h) hk
      refine ⟨textOf k x :: bs, rfl, ?_, hlt⟩
      rw [e, List.map_cons, Lib.join_cons]
      simp [textOf]
    | _ => cases h
  | _ => cases h

/-- strings.Join. -/
def natJoin (gs : AV) (H : Heap) : Option AV :=
  match gs with
  | .cons s (.cons (.str sl sn) .nil) =>
    match s with
    | .nilslice => some (.str 0 0)
    | .slice p off n _ | .oslice p off n 1 =>
      match n with
      | 0 => some (.str 0 0)
      | n + 1 =>
        match H.get p with
        | some (.cells t _ _) =>
          match cellsFrom t off (n + 1) with
          | some cs =>
            match joinN sl sn cs with
            | some (l, m) => match Nat.ble l 17179869184 && Nat.ble n 17179869184 with
              | true => some (.str l m)
              | false => none
            | none => none
          | none => none
        | _ => none
    | _ => none
  | _ => none

theorem natJoin_ok {τ : Go.Shelf.Ren} (L : Lays.n156 P τ) (X : Builder.Extra P τ) {f ng : Nat} (hf : f = τ.f 156) (hfn : ∃ fn, P.funcs[f]? = some fn ∧ fn.body.isSome = true ∧ fn.name ≠ "runtime.NumGoroutine") : NatOk P ng f natJoin := by
  refine ⟨hfn, ?_⟩
  subst hf
  intro gs v H hi ρ w args hH hR hl
  have key : ∀ {p : Pos} {off n c : Nat} {sl sn : Nat} {s : AV}, sn < 256 ^ sl → (∃ L : Loc, ρ p = some L ∧ (n + 1 ≤ c) ∧ args = #[.slice (some ⟨L.b, L.base + off, none⟩) (n + 1) c, .string (textOf sl sn)]) →
      (match H.get p with
        | some (.cells t _ _) =>
          match cellsFrom t off (n + 1) with
          | some cs =>
            match joinN sl sn cs with
            | some (l, m) => match Nat.ble l 17179869184 && Nat.ble n 17179869184 with
              | true => some (AV.str l m)
              | false => none
            | none => none
          | none => none
        | _ => none) = some v →
      Calls P (τ.f 156) args w fun e w' => ∃ x, e = .returned x ∧ RX ρ v [x] ∧ w'.os = w.os ∧ w'.tape = w.tape ∧ w'.output = w.output ∧ w.heap.size ≤ w'.heap.size ∧ ∀ b, b < w.heap.size → w'.heap[b]? = w.heap[b]? := by
    intro p off n c sl sn s hsn ⟨M, hM, hnc, ha⟩ hi
    subst ha
    split at hi
    · rename_i t k op hp
      split at hi
      · rename_i cs hcs
        split at hi
        · rename_i l m hj
          split at hi
          · rename_i hb
            cases hi
            rw [Bool.and_eq_true, Nat.ble_eq, Nat.ble_eq] at hb
            obtain ⟨xs, y1, y2, y3, y4, y5, y6, _⟩ := rowCells hH hp hM hcs
            obtain ⟨bs, rfl, e, hlt⟩ := join_rel hsn y2 hj
            have hlen : bs.length = n + 1 := by simpa using y1
            have htd : (textOf sl sn).data.toList = bytesL sn 0 sl := by simp [textOf]
            have hjl : (Lib.join (bs.map (·.data.toList)) (textOf sl sn).data.toList).length = l := by rw [htd, ← e, bytesL_length]
            have hcall := Any.strings_Join L X M.b (M.base + off) c bs (textOf sl sn) w (fun j x hx => y5 j _ (by rw [List.getElem?_map, hx]; rfl)) (hH.bound p M hM) (by omega) (by omega) (by rw [hjl]; omega)
            rw [hlen] at hcall
            refine hcall.mono ?_
            rintro e' w' ⟨rfl, hw⟩
            refine ⟨_, rfl, ⟨hlt, ?_⟩, hw.os, hw.tape, hw.output, hw.size, hw.block⟩
            rw [htd, ← e]
            rfl
          · cases hi
        · cases hi
      · cases hi
    · cases hi
  have none0 : ∀ {a : Option Addr} {c : Nat} {sl sn : Nat}, args = #[.slice a 0 c, .string (textOf sl sn)] → v = .str 0 0 → Calls P (τ.f 156) args w fun e w' => ∃ x, e = .returned x ∧ RX ρ v [x] ∧ w'.os = w.os ∧ w'.tape = w.tape ∧ w'.output = w.output ∧ w.heap.size ≤ w'.heap.size ∧ ∀ b, b < w.heap.size → w'.heap[b]? = w.heap[b]? := by
    intro a c sl sn ha hv
    subst ha hv
    refine (Any.strings_Join_none L X a c (textOf sl sn) w).mono ?_
    rintro e w' ⟨rfl, rfl⟩
    exact ⟨_, rfl, ⟨by simp, rfl⟩, rfl, rfl, rfl, Nat.le_refl _, fun _ _ => rfl⟩
  unfold natJoin at hi
  split at hi
  · rename_i s sl sn
    obtain ⟨x1, r1, e1, hs, x2, r2, e2, ⟨hsn, hx2⟩, e3⟩ := hR
    cases hx2
    subst e3 e2
    have hargs : args = #[x1, .string (textOf sl sn)] := by
      apply Array.ext'
      rw [e1]
    split at hi
    · cases hi
      have hs : x1 = .slice none 0 0 := by simpa [RX] using hs
      subst hs
      exact none0 hargs rfl
    · rename_i p off n c
      obtain ⟨M, hM, hnc, hx1⟩ := hs.slice_eq
      subst hx1
      split at hi
      · cases hi; exact none0 hargs rfl
      · exact key (s := .nil) hsn ⟨M, hM, hnc, hargs⟩ hi
    · rename_i p off n
      obtain ⟨M, hM, hs⟩ := hs
      split at hi
      · cases hi
        rcases hs with ⟨cap, _, _, hx1⟩ | ⟨_, _, o, hx1⟩
        · cases hx1; exact none0 hargs rfl
        · cases hx1; exact none0 hargs rfl
      · rcases hs with ⟨cap, _, hnc, hx1⟩ | ⟨h0, _⟩
        · cases hx1; exact key (s := .nil) hsn ⟨M, hM, hnc, hargs⟩ hi
        · omega
    · cases hi
  · cases hi

/-- Two texts, byte by byte. -/
def cmpN : Nat → Nat → Nat → Nat → Int
  | 0, _, k, _ => match Nat.beq k 0 with
    | true => 0
    | false => -1
  | l + 1, n, k, m => match Nat.beq k 0 with
    | true => 1
    | false => match Nat.blt (n % 256) (m % 256), Nat.blt (m % 256) (n % 256) with
      | true, _ => -1
      | false, true => 1
      | false, false => cmpN l (n / 256) (k - 1) (m / 256)

theorem cmpN_eq : ∀ (l n k m : Nat), cmpN l n k m = Lib.compareBytes (bytesL n 0 l) (bytesL m 0 k) := by
  intro l
  induction l with
  | zero =>
    intro n k m
    cases k with
    | zero => rfl
    | succ k => rfl
  | succ l ih =>
    intro n k m
    cases k with
    | zero => rfl
    | succ k =>
      have hb : ∀ a j, bytesL a 0 (j + 1) = UInt8.ofNat (a % 256) :: bytesL (a / 256) 0 j := fun a j => by
        simp only [bytesL]
        rw [bytesL_div a j 0]
        simp [byteAt]
      have hlt : ∀ a b : Nat, (UInt8.ofNat (a % 256) < UInt8.ofNat (b % 256)) ↔ a % 256 < b % 256 := fun a b => by
        rw [UInt8.lt_iff_toNat_lt, UInt8.toNat_ofNat', UInt8.toNat_ofNat', Nat.mod_mod, Nat.mod_mod]
      rw [hb n l, hb m k]
      unfold cmpN
      have h0 : Nat.beq (k + 1) 0 = false := rfl
      rw [h0]
      simp only [Lib.compareBytes, hlt, Nat.add_sub_cancel]
      rw [← ih]
      by_cases h1 : n % 256 < m % 256
      · have : Nat.blt (n % 256) (m % 256) = true := by simpa using h1
        rw [this, if_pos h1]
      · have e1 : Nat.blt (n % 256) (m % 256) = false := by
          cases hh : Nat.blt (n % 256) (m % 256) with
          | false => rfl
          | true => exact absurd (by simpa using hh) h1
        rw [e1, if_neg h1]
        by_cases h2 : m % 256 < n % 256
        · have : Nat.blt (m % 256) (n % 256) = true := by simpa using h2
          rw [this, if_pos h2]
        · have e2 : Nat.blt (m % 256) (n % 256) = false := by
            cases hh : Nat.blt (m % 256) (n % 256) with
            | false => rfl
            | true => exact absurd (by simpa using hh) h2
          rw [e2, if_neg h2]

/-- strings.Compare. -/
def natCompare (gs : AV) (_ : Heap) : Option AV :=
  match gs with
  | .cons (.str l n) (.cons (.str k m) .nil) => some (.int 3 (cmpN l n k m))
  | _ => none

theorem natCompare_ok {τ : Go.Shelf.Ren} (L : Lays.n106 P τ) {f ng : Nat} (hf : f = τ.f 106) (hfn : ∃ fn, P.funcs[f]? = some fn ∧ fn.body.isSome = true ∧ fn.name ≠ "runtime.NumGoroutine") : NatOk P ng f natCompare := by
  refine ⟨hfn, ?_⟩
  subst hf
  intro gs v H hi ρ w args hH hR hl
  unfold natCompare at hi
  split at hi
  · rename_i l n k m
    cases hi
    obtain ⟨x1, r1, e1, ⟨h1, hx1⟩, x2, r2, e2, ⟨h2, hx2⟩, e3⟩ := hR
    cases hx1
    cases hx2
    subst e3 e2
    have hargs : args = #[.string (textOf l n), .string (textOf k m)] := by
      apply Array.ext'
      rw [e1]
    subst hargs
    refine (Any.strings_Compare L (textOf l n) (textOf k m) w).mono ?_
    rintro e w' ⟨rfl, rfl⟩
    refine ⟨_, rfl, ⟨by decide, ?_⟩, rfl, rfl, rfl, Nat.le_refl _, fun _ _ => rfl⟩
    rw [cmpN_eq]
    simp [textOf, kindOf]
  · cases hi
end Go.Dx
