/-
  Operations, sixth part: slicing, converting, lengths, new slices.
-/
import Derived.Test.YtnlbchnlbpaflaaGreatDoorDxOpE
set_option linter.unusedSimpArgs false
set_option linter.unusedVariables false
set_option linter.unusedSectionVars false
namespace Go.Dx

section
variable {P : Program} {C : Ctx} {ρ : Ren} {ns : List (Option Tmp)} {ls : AV} {fr : Tr AV} {a : Act} {H H' : Heap} {w : World} {v : AV} {ci : CI} {o : Oper}

theorem run_sliceBound {k : IntKind} {i y : Nat} (code : BoundsCode) (h : i ≤ y) (w : World) : (Instr.sliceBound (.int k (i : Int)) y code).run P w = .ok i w := by
  unfold Instr.sliceBound
  rw [runB (run_asIntOf _ _ w)]
  simp only
  rw [if_pos (by omega), Int.toNat_natCast]
  rfl

/-- An optional bound. -/
def BR (x : Option Value) (n : Option Nat) : Prop :=
  match x, n with
  | none, none => True
  | some u, some i => ∃ k, u = .int k (i : Int)
  | _, _ => False

theorem optN_rel (E : Env P C ρ ns ls fr a H w) {x : Option Operand} {y : Option Opd} {n : Option Nat} (hx : Dx.opdO C ns x = some y) (hv : optN ls fr y = some n) : BR (x.map a.eval) n := by
  cases x with
  | none => simp [opdO] at hx; subst hx; simp [optN] at hv; subst hv; trivial
  | some u =>
    simp only [opdO, Option.map_eq_some_iff] at hx
    obtain ⟨y', hy, rfl⟩ := hx
    obtain ⟨z, hz, g1⟩ := bindO hv
    obtain ⟨i, hi, e⟩ := bindO g1
    cases e
    exact nat_eq (E.opd hy hz) hi

theorem run_sliceBounds {isS : Bool} {len cap : Nat} {lo hi mx : Option Value} {l h m : Option Nat} (hl : BR lo l) (hh : BR hi h) (hm : BR mx m) (hmh : mx.isSome = true → hi.isSome = true) {l' h' m' : Nat} (hb : sliceBounds len cap l h m = some (l', h', m')) (w : World) :
    (Instr.sliceBounds isS len cap lo hi mx).run P w = .ok (l', h', m') w := by
  unfold sliceBounds at hb
  simp only at hb
  split at hb
  · rename_i hc
    obtain ⟨c1, c2, c3⟩ := hc
    cases hb
    unfold Instr.sliceBounds
    have sm : (match mx with
      | some v => Instr.sliceBound v cap (if isS then .slice3Acap else .slice3Alen)
      | none => pure cap : Sem Nat).run P w = .ok (m.getD cap) w := by
      cases mx with
      | none => cases m with
        | none => rfl
        | some _ => exact hm.elim
      | some u => cases m with
        | none => exact hm.elim
        | some i => obtain ⟨k, rfl⟩ := hm; exact run_sliceBound _ c1 w
    have sh : (match hi, mx with
      | some v, some _ => Instr.sliceBound v (m.getD cap) .slice3B
      | some v, none => Instr.sliceBound v (m.getD cap) (if isS then .sliceAcap else .sliceAlen)
      | none, none => pure len
      | none, some _ => stuck "Slice: max without high" : Sem Nat).run P w = .ok (h.getD len) w := by
      cases hi with
      | none => cases h with
        | none => cases mx with
          | none => rfl
          | some _ => simp at hmh
        | some _ => exact hh.elim
      | some u => cases h with
        | none => exact hh.elim
        | some i =>
          obtain ⟨k, rfl⟩ := hh
          cases mx with
          | none => exact run_sliceBound _ c2 w
          | some _ => exact run_sliceBound _ c2 w
    have sl : (match lo with
      | some v => Instr.sliceBound v (h.getD len) (if mx.isSome then .slice3C else .sliceB)
      | none => pure 0 : Sem Nat).run P w = .ok (l.getD 0) w := by
      cases lo with
      | none => cases l with
        | none => rfl
        | some _ => exact hl.elim
      | some u => cases l with
        | none => exact hl.elim
        | some i => obtain ⟨k, rfl⟩ := hl; exact run_sliceBound _ c3 w
    cases mx with
    | none =>
      simp only at sm ⊢
      rw [runB sm]
      cases hi with
      | none =>
        simp only at sh ⊢
        rw [runB sh]
        cases lo with
        | none => simp only at sl ⊢; rw [runB sl]; rfl
        | some u => simp only at sl ⊢; rw [runB sl]; rfl
      | some u =>
        simp only at sh ⊢
        rw [runB sh]
        cases lo with
        | none => simp only at sl ⊢; rw [runB sl]; rfl
        | some u => simp only at sl ⊢; rw [runB sl]; rfl
    | some q =>
      simp only at sm ⊢
      rw [runB sm]
      cases hi with
      | none => simp at hmh
      | some u =>
        simp only at sh ⊢
        rw [runB sh]
        cases lo with
        | none => simp only at sl ⊢; rw [runB sl]; rfl
        | some u => simp only at sl ⊢; rw [runB sl]; rfl
  · cases hb

theorem sliceBounds_le {len cap : Nat} {l h m : Option Nat} {l' h' m' : Nat} (hb : sliceBounds len cap l h m = some (l', h', m')) : l' ≤ h' ∧ h' ≤ m' ∧ m' ≤ cap ∧ h' = h.getD len ∧ (m = none → m' = cap) := by
  unfold sliceBounds at hb
  simp only at hb
  split at hb
  · rename_i hc
    cases hb
    refine ⟨hc.2.2, hc.2.1, hc.1, rfl, fun e => by rw [e]; rfl⟩
  · cases hb

theorem ok_slice (E : Env P C ρ ns ls fr a H w) {t : TypeId} {x : Operand} {lo hi mx : Option Operand} (hci : opP P C ns (.slice t x lo hi mx) = some ci) (hev : ci.ev ls fr H = some (v, H')) :
    OpOk P C.ng ρ H w (do pure (.value (← Instr.sliceAt t (a.eval x) (lo.map a.eval) (hi.map a.eval) (mx.map a.eval)))) v H' := by
  simp only [opP] at hci
  split at hci
  · cases hci
  rename_i hmhi
  have hmh : (mx.map a.eval).isSome = true → (hi.map a.eval).isSome = true := by
    intro h
    cases mx <;> cases hi <;> simp_all
  split at hci
  · rename_i x' l' h' m' hx hl hh hm
    split at hci
    · rename_i hu
      split at hci
      · cases hci
      · rename_i hmx
        cases hci
        have hmn : mx = none := by cases mx <;> simp_all
        subst hmn
        obtain ⟨u, hu1, g1⟩ := bindO hev
        split at g1
        · rename_i len n
          obtain ⟨lv, hlv, g2⟩ := bindO g1
          obtain ⟨hv, hhv, g3⟩ := bindO g2
          obtain ⟨⟨l, h, m⟩, hb, g4⟩ := bindO g3
          cases g4
          obtain ⟨hlt, hxe⟩ := (E.opd hx hu1).str_eq
          have hbr := run_sliceBounds (P := P) (isS := false) (optN_rel E hl hlv) (optN_rel E hh hhv) (mx := none) (m := none) trivial (by simp) hb w
          have hle := sliceBounds_le hb
          refine .pureVal E.H (x := .string (textOf (h - l) (n / 256 ^ l % 256 ^ (h - l)))) ?_ ⟨Nat.mod_lt _ (Nat.pow_pos (by omega)), rfl⟩
          rw [hxe]
          unfold Instr.sliceAt
          rw [runB (run_underlying hu w)]
          simp only [Option.map_none]
          unfold Instr.slice
          rw [runB (run_underlying hu w)]
          simp only [Option.isSome_none, Bool.false_eq_true, if_false]
          rw [textOf_size, runB hbr]
          simp only
          rw [textOf_extract _ _ _ _ hle.1 (by omega)]
          rfl
        · cases g1
    · rename_i e hu
      split at hci
      · rename_i n hn
        split at hci
        · cases hci
        · rename_i hn0
          cases hci
          obtain ⟨lv, hlv, g1⟩ := bindO hev
          obtain ⟨hv, hhv, g2⟩ := bindO g1
          obtain ⟨mv, hmv, g3⟩ := bindO g2
          obtain ⟨u, hu1, g4⟩ := bindO g3
          have b1 := optN_rel E hl hlv
          have b2 := optN_rel E hh hhv
          have b3 := optN_rel E hm hmv
          have go : ∀ (ad : Option Addr) (len cap : Nat) (l h m : Nat), a.eval x = .slice ad len cap → sliceBounds len cap lv hv mv = some (l, h, m) →
              (Instr.sliceAt t (a.eval x) (lo.map a.eval) (hi.map a.eval) (mx.map a.eval)).run P w = .ok (.slice (if m = l then ad else ad.map (·.add (l * n))) (h - l) (m - l)) w := by
            intro ad len cap l h m hxe hb
            have hbr := run_sliceBounds (P := P) (isS := true) b1 b2 b3 hmh hb w
            rw [hxe]
            unfold Instr.sliceAt
            rw [runB (run_underlying hu w)]
            simp only
            unfold Instr.slice
            rw [runB (run_underlying hu w)]
            simp only
            rw [runB hbr]
            simp only
            rw [runB (run_sizeOf hn w)]
            rfl
          split at g4
          · obtain ⟨⟨l, h, m⟩, hb, g5⟩ := bindO g4
            cases g5
            have hxe : a.eval x = .slice none 0 0 := by have := E.opd hx hu1; simpa [RX] using this
            have hle := sliceBounds_le hb
            have hr := go none 0 0 l h m hxe hb
            refine .pureVal E.H (x := .slice none 0 0) ?_ rfl
            rw [hr]
            have h1 : h - l = 0 := by omega
            have h2 : m - l = 0 := by omega
            rw [h1, h2]
            simp
          · rename_i p off len cap
            obtain ⟨⟨l, h, m⟩, hb, g5⟩ := bindO g4
            cases g5
            obtain ⟨L, hL, _, hxe⟩ := (E.opd hx hu1).slice_eq
            have hle := sliceBounds_le hb
            have hr := go _ len cap l h m hxe hb
            refine .pureVal E.H hr ?_
            by_cases hml : m = l
            · rw [if_pos hml, if_pos hml, show h - l = 0 by omega, show m - l = 0 by omega]
              exact ⟨L, hL, Nat.le_refl _, rfl⟩
            · rw [if_neg hml, if_neg hml]
              exact ⟨L, hL, by omega, by simp only [Option.map_some, addr_add, Nat.add_assoc]⟩
          · rename_i p off len s
            split at g4
            · cases g4
            · rename_i hs
              simp only [ne_eq, Decidable.not_not] at hs
              subst hs
              split at g4
              · rename_i t' N hp
                obtain ⟨L, hL, hxe⟩ := E.opd hx hu1
                obtain ⟨c, e', fr', h1, h2, h3, _, _, _⟩ := E.H.row hp hL
                simp only at g4
                -- the capacity that is, at least
                have hcap : ∃ ad cap', a.eval x = .slice (some ad) len cap' ∧ (N - off) / s ≤ cap' ∧ ((ad = ⟨L.b, L.base + off, none⟩ ∧ L.base + off + cap' * s = L.sz) ∨ (len = 0 ∧ cap' = 0 ∧ L.base + off = L.sz ∧ ad.block = L.b ∧ ad.spot = none)) := by
                  rcases hxe with ⟨cap', hc1, hc2, hxe⟩ | ⟨h0, hc1, o, hxe⟩
                  · refine ⟨_, cap', by simpa using hxe, ?_, .inl ⟨rfl, hc1⟩⟩
                    apply Nat.div_le_of_le_mul
                    rw [Nat.mul_comm]
                    omega
                  · subst h0
                    refine ⟨_, 0, by simpa using hxe, ?_, .inr ⟨rfl, rfl, hc1, rfl, rfl⟩⟩
                    have : N - off = 0 := by omega
                    rw [this]
                    simp
                obtain ⟨ad, cap', hxe, hcc, hal⟩ := hcap
                split at g4
                · rename_i mq
                  obtain ⟨⟨l, h, m⟩, hb, g5⟩ := bindO g4
                  simp only at g5
                  split at g5
                  · rename_i hml
                    split at g5
                    · cases g5
                    · rename_i hlen0
                      cases g5
                      have hle := sliceBounds_le hb
                      have hb' : sliceBounds len cap' lv hv (some mq) = some (l, h, m) := by
                        unfold sliceBounds at hb ⊢
                        simp only [Option.getD_some] at hb ⊢
                        split at hb
                        · rename_i hc; rw [if_pos ⟨Nat.le_trans hc.1 hcc, hc.2⟩]; exact hb
                        · cases hb
                      have hr := go _ len cap' l h m hxe hb'
                      refine .pureVal E.H hr ?_
                      rw [if_pos hml, show h - l = 0 by omega, show m - l = 0 by omega]
                      rcases hal with ⟨rfl, _⟩ | ⟨h0, _⟩
                      · exact ⟨L, hL, Nat.le_refl _, rfl⟩
                      · exact absurd h0 hlen0
                  · rename_i hml
                    cases g5
                    have hle := sliceBounds_le hb
                    have hb' : sliceBounds len cap' lv hv (some mq) = some (l, h, m) := by
                      unfold sliceBounds at hb ⊢
                      simp only [Option.getD_some] at hb ⊢
                      split at hb
                      · rename_i hc; rw [if_pos ⟨Nat.le_trans hc.1 hcc, hc.2⟩]; exact hb
                      · cases hb
                    have hr := go _ len cap' l h m hxe hb'
                    refine .pureVal E.H hr ?_
                    rw [if_neg hml]
                    rcases hal with ⟨rfl, _⟩ | ⟨h0, hc0, hz, _⟩
                    · exact ⟨L, hL, by omega, by simp only [Option.map_some, addr_add, Nat.add_assoc]⟩
                    · have : (N - off) / s = 0 := by omega
                      omega
                · obtain ⟨⟨l, h, m⟩, hb, g5⟩ := bindO g4
                  cases g5
                  have hle := sliceBounds_le hb
                  have hb' : sliceBounds len cap' lv hv none = some (l, h, cap') := by
                    unfold sliceBounds at hb ⊢
                    simp only [Option.getD_none] at hb ⊢
                    split at hb
                    · rename_i hc
                      cases hb
                      rw [if_pos ⟨Nat.le_refl _, Nat.le_trans hc.2.1 hcc, hc.2.2⟩]
                    · cases hb
                  have hr := go _ len cap' l h cap' hxe hb'
                  have hle' := sliceBounds_le hb'
                  simp only
                  refine .pureVal E.H hr ?_
                  rcases hal with ⟨rfl, hz⟩ | ⟨h0, hc0, hz, hb1, hb2⟩
                  · by_cases hcl : cap' = l
                    · rw [if_pos hcl, show h - l = 0 by omega, show cap' - l = 0 by omega]
                      refine ⟨L, hL, .inr ⟨rfl, ?_, _, rfl⟩⟩
                      rw [← Nat.add_assoc, ← hcl]
                      exact hz
                    · rw [if_neg hcl]
                      refine ⟨L, hL, .inl ⟨cap' - l, ?_, (by show h - l ≤ cap' - l; omega), by simp only [Option.map_some, addr_add, Nat.add_assoc]⟩⟩
                      have h5 : cap' * s = l * s + (cap' - l) * s := by rw [← Nat.add_mul]; congr 1; omega
                      omega
                  · have hl0 : l = 0 := by omega
                    have hh0 : h = 0 := by omega
                    subst hl0 hh0 hc0
                    simp only [if_true, Nat.sub_self, Nat.zero_mul, Nat.add_zero]
                    obtain ⟨ab, ao, asp⟩ := ad
                    simp only at hb1 hb2
                    subst hb1 hb2
                    exact ⟨L, hL, .inr ⟨rfl, hz, ao, rfl⟩⟩
              · cases g4
          · cases g4
      · cases hci
    · rename_i k e hu
      split at hci
      · rename_i n hn
        cases hci
        obtain ⟨lv, hlv, g1⟩ := bindO hev
        obtain ⟨hv, hhv, g2⟩ := bindO g1
        obtain ⟨mv, hmv, g3⟩ := bindO g2
        obtain ⟨u, hu1, g4⟩ := bindO g3
        have b1 := optN_rel E hl hlv
        have b2 := optN_rel E hh hhv
        have b3 := optN_rel E hm hmv
        split at g4
        · rename_i p off
          obtain ⟨⟨l, h, m⟩, hb, g5⟩ := bindO g4
          cases g5
          obtain ⟨L, hL, hxe⟩ := (E.opd hx hu1).ptr_eq
          have hle := sliceBounds_le hb
          have hbr := run_sliceBounds (P := P) (isS := false) b1 b2 b3 hmh hb w
          have hr : (Instr.sliceAt t (a.eval x) (lo.map a.eval) (hi.map a.eval) (mx.map a.eval)).run P w = .ok (.slice (some (if m = l then ⟨L.b, L.base + off, none⟩ else ⟨L.b, L.base + off + l * n, none⟩)) (h - l) (m - l)) w := by
            rw [hxe]
            unfold Instr.sliceAt
            rw [runB (run_underlying hu w)]
            simp only
            rw [runB (run_sureAddr _ w), runB hbr]
            simp only
            rw [runB (run_sizeOf hn w), addr_add]
            rfl
          refine .pureVal E.H hr ?_
          by_cases hml : m = l
          · rw [if_pos hml, if_pos hml, show h - l = 0 by omega, show m - l = 0 by omega]
            exact ⟨L, hL, Nat.le_refl _, rfl⟩
          · rw [if_neg hml, if_neg hml]
            exact ⟨L, hL, by omega, by simp only [Nat.add_assoc]⟩
        · cases g4
      · cases hci
    · cases hci
  · cases hci

end
end Go.Dx
