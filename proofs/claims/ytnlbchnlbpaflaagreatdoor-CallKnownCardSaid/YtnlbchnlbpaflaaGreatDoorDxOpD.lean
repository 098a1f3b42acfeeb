/-
  Operations, fourth part: what computes without memory, places, maps.
-/
import Derived.Test.YtnlbchnlbpaflaaGreatDoorDxOpC
set_option linter.unusedSimpArgs false
set_option linter.unusedVariables false
set_option linter.unusedSectionVars false
namespace Go.Dx

section
variable {P : Program} {C : Ctx} {ρ : Ren} {ns : List (Option Tmp)} {ls : AV} {fr : Tr AV} {a : Act} {H H' : Heap} {w : World} {v : AV} {ci : CI} {o : Oper}

theorem wrap_kind (c : Nat) (n : Int) (hc : c < 8) : RX ρ (.int c ((kindOf c).wrap n)) [.int (kindOf c) ((kindOf c).wrap n)] := ⟨hc, rfl⟩

theorem ok_unOp (E : Env P C ρ ns ls fr a H w) {op : UnOp} {t : TypeId} {x : Operand} (hci : opP P C ns (.unOp op t x) = some ci) (hev : ci.ev ls fr H = some (v, H')) :
    OpOk P C.ng ρ H w (do pure (.value (← Op.unary op (a.eval x)))) v H' := by
  simp only [opP] at hci
  split at hci
  · rename_i y hy
    cases hci
    obtain ⟨u, hu, g1⟩ := bindO hev
    obtain ⟨⟨c, n⟩, hj, g2⟩ := bindO g1
    have e1 := asInt_eq hj
    subst e1
    obtain ⟨z, hz, e⟩ := bindO g2
    cases e
    obtain ⟨hc, hx⟩ := (E.opd hy hu).int_eq
    simp only [arithI] at hz
    cases hz
    refine .pureVal E.H (x := .int (kindOf c) ((kindOf c).wrap (0 - n))) ?_ ⟨hc, rfl⟩
    rw [hx]; rfl
  · rename_i y hy
    cases hci
    obtain ⟨u, hu, g1⟩ := bindO hev
    obtain ⟨⟨c, n⟩, hj, g2⟩ := bindO g1
    have e1 := asInt_eq hj
    subst e1
    obtain ⟨z, hz, e⟩ := bindO g2
    cases e
    obtain ⟨hc, hx⟩ := (E.opd hy hu).int_eq
    simp only [arithI] at hz
    cases hz
    refine .pureVal E.H (x := .int (kindOf c) _) ?_ ⟨hc, rfl⟩
    rw [hx]; rfl
  · rename_i y hy
    cases hci
    obtain ⟨u, hu, g1⟩ := bindO hev
    obtain ⟨b, hb, e⟩ := bindO g1
    cases e
    have e1 := asBool_eq hb
    subst e1
    refine .pureVal E.H (x := .bool (!b)) ?_ rfl
    rw [(E.opd hy hu).bool_eq]; rfl
  · cases hci

theorem ok_makeInterface (E : Env P C ρ ns ls fr a H w) {t : TypeId} {x : Operand} (hci : opP P C ns (.makeInterface t x) = some ci) (hev : ci.ev ls fr H = some (v, H')) :
    OpOk P C.ng ρ H w (do pure (.value (← Instr.makeInterface t (a.eval x)))) v H' := by
  simp only [opP] at hci
  split at hci
  · cases hci
  · rename_i d y hni hu hy
    cases hci
    obtain ⟨u, hu1, e⟩ := bindO hev
    cases e
    refine .pureVal E.H (x := .iface t (a.eval x)) ?_ ⟨_, rfl, E.opd hy hu1⟩
    unfold Instr.makeInterface
    rw [runB (run_underlying hu w)]
    cases d <;> first | rfl | exact (hni _ rfl).elim
  · cases hci

theorem ok_makeFunc (E : Env P C ρ ns ls fr a H w) {fn : Fn} {f c : Array Operand} (hci : opP P C ns (.makeFunc fn f c) = some ci) (hev : ci.ev ls fr H = some (v, H')) :
    OpOk P C.ng ρ H w (do pure (.value (← Instr.makeFunc fn (f.map a.eval) (c.map a.eval)))) v H' := by
  simp only [opP] at hci
  split at hci
  · rename_i g x y hx hy
    cases hci
    obtain ⟨u, hu1, g1⟩ := bindO hev
    obtain ⟨u', hu2, e⟩ := bindO g1
    cases e
    obtain ⟨r1, i1⟩ := E.opds hx hu1
    obtain ⟨r2, i2⟩ := E.opds hy hu2
    exact .pureVal E.H (x := .func (.func g) (f.map a.eval) (c.map a.eval)) rfl ⟨_, _, g, rfl, rfl, i1, i2, by simpa using r1, by simpa using r2⟩
  · cases hci

theorem newMap_ok {ng : Nat} (hH : HRel P ng ρ H w) : ∃ ρ' w', (newObj (.map #[] 0)).run P w = .ok w.heap.size w' ∧ ρ' H.next = some ⟨w.heap.size, 0, 0⟩ ∧ HRel P ng ρ' (H.new (.map .nil 0)).2 w' ∧ Step ρ H w ρ' (H.new (.map .nil 0)).2 w' := by
  refine ⟨ρ.put H.next ⟨w.heap.size, 0, 0⟩, pushed w (.map #[] 0), rfl, by simp [Ren.put], hH.alloc rfl ?_ (by simp), Step.alloc hH rfl rfl rfl rfl⟩
  intro ρ' _
  exact ⟨#[], by show (w.heap.push _)[w.heap.size]? = _; rw [Array.getElem?_push_size], rfl⟩

theorem ok_makeMap (E : Env P C ρ ns ls fr a H w) {t : TypeId} {r : Option Operand} (hci : opP P C ns (.makeMap t r) = some ci) (hev : ci.ev ls fr H = some (v, H')) :
    OpOk P C.ng ρ H w (do pure (.value (← Instr.makeMap t (r.map a.eval)))) v H' := by
  obtain ⟨ρ', w', r1, r2, r3, r4⟩ := newMap_ok (P := P) E.H
  simp only [opP] at hci
  have fin : ∀ {s : Sem Value}, s.run P w = ((do pure (.map (some (← newObj (.map #[] 0)))) : Sem Value).run P w) → ci = .mkMap → OpOk P C.ng ρ H w (do pure (.value (← s))) v H' := by
    intro s hs hc
    subst hc
    cases hev
    refine .ofVal ⟨ρ', w', .map (some w.heap.size), ?_, ⟨_, r2, rfl⟩, r3, r4⟩
    rw [hs]
    show (newObj (.map #[] 0) >>= fun n => (pure (.map (some n)) : Sem Value)).run P w = _
    rw [runB r1]; rfl
  split at hci
  · cases hci
    exact fin rfl rfl
  · rename_i k n _ _ hu
    cases hci
    refine fin ?_ rfl
    show (Instr.makeMap t (some (.int k n))).run P w = _
    unfold Instr.makeMap
    simp only
    rw [runB (run_underlying hu w)]
    rfl
  · cases hci

theorem ok_extract (E : Env P C ρ ns ls fr a H w) {j : Nat} {x : Operand} {y : Opd} (hx : Dx.opd C ns x = some y) (hev : (CI.extract j y).ev ls fr H = some (v, H')) :
    OpOk P C.ng ρ H w (do pure (.value (← Instr.extract (a.eval x) j))) v H' := by
  obtain ⟨u, hu, g1⟩ := bindO hev
  split at g1
  · rename_i vs
    obtain ⟨z, hz, e⟩ := bindO g1
    cases e
    obtain ⟨xs, hxe, _, hr⟩ := (E.opd hx hu).tuple_eq
    obtain ⟨y', hy, hr'⟩ := hr.nth hz
    refine .pureVal E.H (x := y') ?_ hr'
    rw [hxe]
    unfold Instr.extract
    simp only
    rw [show xs[j]? = some y' by simpa using hy]
    rfl
  · cases g1

theorem run_fieldPlace {s : TypeId} {f : Field} {n : Nat} (hs : sizeP P f.type = some n) (hn : n ≠ 0) (x : Addr) (w : World) : (fieldPlace x f).run P w = .ok (x.add f.offset) w := by
  unfold fieldPlace
  rw [runB (run_sizeOf hs w), if_neg hn]
  rfl

theorem ok_fieldAddr (E : Env P C ρ ns ls fr a H w) {s : TypeId} {x : Operand} {j : Nat} (hci : opP P C ns (.fieldAddr s x j) = some ci) (hev : ci.ev ls fr H = some (v, H')) :
    OpOk P C.ng ρ H w (do pure (.value (← Instr.fieldAt s (a.eval x) j))) v H' := by
  simp only [opP] at hci
  split at hci
  · rename_i fs hu
    split at hci
    · rename_i off n y hf hy
      split at hci
      · cases hci
      · rename_i hn
        cases hci
        obtain ⟨u, hu1, g1⟩ := bindO hev
        split at g1
        · rename_i p o
          cases g1
          obtain ⟨L, hL, hxe⟩ := (E.opd hy hu1).ptr_eq
          obtain ⟨f, hf1, hf2, hf3⟩ := fieldsAt_eq hf
          refine .pureVal E.H (x := .pointer (some ⟨L.b, L.base + (o + off), none⟩)) ?_ ⟨L, hL, rfl⟩
          rw [hxe]
          unfold Instr.fieldAt
          rw [runB (run_underlying hu w)]
          simp only [show fs[j]? = some f by simpa using hf1]
          rw [runB (run_sureAddr _ w), runB (run_fieldPlace (s := s) hf3 hn _ w), addr_add, hf2, Nat.add_assoc]
          rfl
        · cases g1
    · cases hci
  · cases hci

theorem run_partN {t : TypeId} {xs : Array Value} {off n : Nat} (ht : isAggP P t = some true) (hn : sizeP P t = some n) (w : World) : (part t xs off).run P w = .ok (.agg (xs.extract off (off + n))) w := by
  unfold part
  rw [runB (run_isAgg ht w)]
  simp only [if_true]
  rw [runB (run_sizeOf hn w)]
  rfl

theorem part_rel {cs : AV} {xs : Array Value} (hr : RX ρ cs xs.toList) (hl : cs.isList = true) (off n : Nat) : RX ρ (.agg ((cs.drop off).take n)) [.agg (xs.extract off (off + n))] := by
  obtain ⟨d1, d2⟩ := hr.drop (n := off) hl
  obtain ⟨t1, t2⟩ := d1.take (n := n) d2
  refine ⟨_, rfl, t2, ?_⟩
  have : (xs.extract off (off + n)).toList = (xs.toList.drop off).take n := by
    rw [Array.toList_extract, List.extract_eq_take_drop]
    simp
  rw [this]
  exact t1

theorem ok_field (E : Env P C ρ ns ls fr a H w) {s : TypeId} {x : Operand} {j : Nat} (hci : opP P C ns (.field s x j) = some ci) (hev : ci.ev ls fr H = some (v, H')) :
    OpOk P C.ng ρ H w (do pure (.value (← Instr.field s (a.eval x) j))) v H' := by
  simp only [opP] at hci
  split at hci
  · rename_i fs hu
    split at hci
    · rename_i f off n y hf0 hf hy
      obtain ⟨f', hf1, hf2, hf3⟩ := fieldsAt_eq hf
      rw [hf0] at hf1; cases hf1
      have hfs : fs[j]? = some f := by simpa using hf0
      split at hci
      · rename_i hagg
        cases hci
        obtain ⟨u, hu1, g1⟩ := bindO hev
        split at g1
        · rename_i cs
          split at g1
          · rename_i hle
            cases g1
            obtain ⟨xs, hxe, hl, hr⟩ := (E.opd hy hu1).agg_eq
            refine .pureVal E.H ?_ (part_rel hr hl off n)
            rw [hxe]
            unfold Instr.field
            rw [runB (run_underlying hu w)]
            simp only [hfs]
            show (part f.type xs f.offset).run P w = _
            rw [hf2]
            exact run_partN hagg hf3 w
          · cases g1
        · cases g1
      · rename_i hagg
        cases hci
        obtain ⟨u, hu1, g1⟩ := bindO hev
        split at g1
        · rename_i cs
          obtain ⟨z, hz, e⟩ := bindO g1
          cases e
          obtain ⟨xs, hxe, hl, hr⟩ := (E.opd hy hu1).agg_eq
          obtain ⟨y', hy', hr'⟩ := hr.nth hz
          refine .pureVal E.H ?_ hr'
          rw [hxe]
          unfold Instr.field
          rw [runB (run_underlying hu w)]
          simp only [hfs]
          show (part f.type xs f.offset).run P w = _
          rw [hf2]
          exact run_part1 hagg (by simpa using hy') w
        · cases g1
      · cases hci
    · cases hci
  · cases hci

theorem run_asIntOf (k : IntKind) (n : Int) (w : World) : (asIntOf (.int k n)).run P w = .ok (k, n) w := rfl

theorem nat_eq {u : AV} {i : Nat} {x : Value} (hr : RX ρ u [x]) (h : asNat u = some i) : ∃ k, x = .int k (i : Int) := by
  obtain ⟨c, rfl⟩ := asNat_eq h
  exact ⟨_, hr.int_eq.2⟩

theorem ok_indexAddr (E : Env P C ρ ns ls fr a H w) {t : TypeId} {x y : Operand} (hci : opP P C ns (.indexAddr t x y) = some ci) (hev : ci.ev ls fr H = some (v, H')) :
    OpOk P C.ng ρ H w (do pure (.value (← Instr.indexAt t (a.eval x) (a.eval y)))) v H' := by
  simp only [opP] at hci
  split at hci
  · rename_i e hu
    split at hci
    · rename_i n x' y' hn hx hy
      split at hci
      · cases hci
      · rename_i hn0
        cases hci
        obtain ⟨u, hu1, g1⟩ := bindO hev
        obtain ⟨i, hi, g2⟩ := bindO g1
        obtain ⟨u', hu2, g3⟩ := bindO g2
        obtain ⟨k, hye⟩ := nat_eq (E.opd hy hu1) hi
        have go : ∀ (L : Loc) (p : Pos) (off len cap : Nat), ρ p = some L → i < len → a.eval x = .slice (some ⟨L.b, L.base + off, none⟩) len cap → v = .ptr p (off + i * n) → H' = H → OpOk P C.ng ρ H w (do pure (.value (← Instr.indexAt t (a.eval x) (a.eval y)))) v H' := by
          intro L p off len cap hL hlt hxe hv hH
          subst hv hH
          refine .pureVal E.H (x := .pointer (some ⟨L.b, L.base + (off + i * n), none⟩)) ?_ ⟨L, hL, rfl⟩
          rw [hxe, hye]
          unfold Instr.indexAt
          rw [runB (run_asIntOf _ _ w), runB (run_underlying hu w)]
          simp only
          rw [runB (runP P _ w)]
          simp only
          rw [runB (run_underlying hu w)]
          simp only
          rw [if_pos (by omega)]
          rw [runB (run_sizeOf hn w), addr_add]
          simp only [Int.toNat_natCast, Nat.add_assoc]
          rfl
        split at g3
        · rename_i p off len cap
          split at g3
          · rename_i hlt
            cases g3
            obtain ⟨L, hL, _, hxe⟩ := (E.opd hx hu2).slice_eq
            exact go L p off len cap hL hlt hxe rfl rfl
          · cases g3
        · rename_i p off len s
          split at g3
          · rename_i hlt
            cases g3
            obtain ⟨L, hL, hxe⟩ := E.opd hx hu2
            rcases hxe with ⟨cap, _, _, hxe⟩ | ⟨h0, _⟩
            · exact go L p off len cap hL hlt (by simpa using hxe) rfl rfl
            · omega
          · cases g3
        · cases g3
    · cases hci
  · rename_i k e hu
    split at hci
    · rename_i n x' y' hn hx hy
      cases hci
      obtain ⟨u, hu1, g1⟩ := bindO hev
      obtain ⟨i, hi, g2⟩ := bindO g1
      obtain ⟨u', hu2, g3⟩ := bindO g2
      obtain ⟨k', hye⟩ := nat_eq (E.opd hy hu1) hi
      split at g3
      · rename_i p off
        split at g3
        · rename_i hlt
          cases g3
          obtain ⟨L, hL, hxe⟩ := (E.opd hx hu2).ptr_eq
          refine .pureVal E.H (x := .pointer (some ⟨L.b, L.base + (off + i * n), none⟩)) ?_ ⟨L, hL, rfl⟩
          rw [hxe, hye]
          unfold Instr.indexAt
          rw [runB (run_asIntOf _ _ w), runB (run_underlying hu w)]
          simp only
          rw [runB (run_sureAddr _ w), runB (runP P _ w)]
          simp only
          rw [runB (run_underlying hu w)]
          simp only
          rw [if_pos (by omega)]
          rw [runB (run_sizeOf hn w), addr_add]
          simp only [Int.toNat_natCast, Nat.add_assoc]
          rfl
        · cases g3
      · cases g3
    · cases hci
  · cases hci

theorem ok_index (E : Env P C ρ ns ls fr a H w) {t : TypeId} {x y : Operand} (hci : opP P C ns (.index t x y) = some ci) (hev : ci.ev ls fr H = some (v, H')) :
    OpOk P C.ng ρ H w (do pure (.value (← Instr.index t (a.eval x) (a.eval y)))) v H' := by
  simp only [opP] at hci
  split at hci
  · rename_i hu
    split at hci
    · rename_i x' y' hx hy
      cases hci
      obtain ⟨u, hu1, g1⟩ := bindO hev
      obtain ⟨i, hi, g2⟩ := bindO g1
      obtain ⟨u', hu2, g3⟩ := bindO g2
      obtain ⟨k, hye⟩ := nat_eq (E.opd hy hu1) hi
      split at g3
      · rename_i len n
        split at g3
        · rename_i hlt
          cases g3
          obtain ⟨_, hxe⟩ := (E.opd hx hu2).str_eq
          refine .pureVal E.H (x := .int .u8 (byteAt n i)) ?_ ⟨by decide, rfl⟩
          rw [hxe, hye]
          unfold Instr.index
          rw [runB (run_asIntOf _ _ w), runB (run_underlying hu w)]
          simp only
          rw [if_pos (by omega), Int.toNat_natCast, textOf_get hlt]
          simp only
          rw [UInt8.toNat_ofNat', Nat.mod_eq_of_lt (byteAt_lt n i)]
          rfl
        · cases g3
      · cases g3
    · cases hci
  · rename_i k e hu
    split at hci
    · rename_i n x' y' hagg hn hx hy
      cases hci
      obtain ⟨u, hu1, g1⟩ := bindO hev
      obtain ⟨i, hi, g2⟩ := bindO g1
      obtain ⟨u', hu2, g3⟩ := bindO g2
      obtain ⟨k', hye⟩ := nat_eq (E.opd hy hu1) hi
      split at g3
      · rename_i cs
        split at g3
        · rename_i hc
          cases g3
          obtain ⟨xs, hxe, hl, hr⟩ := (E.opd hx hu2).agg_eq
          refine .pureVal E.H ?_ (part_rel hr hl (i * n) n)
          rw [hxe, hye]
          unfold Instr.index
          rw [runB (run_asIntOf _ _ w), runB (run_underlying hu w)]
          simp only
          rw [if_pos (by omega), runB (run_sizeOf hn w), Int.toNat_natCast]
          exact run_partN hagg hn w
        · cases g3
      · cases g3
    · rename_i x' y' hagg hn hx hy
      cases hci
      obtain ⟨u, hu1, g1⟩ := bindO hev
      obtain ⟨i, hi, g2⟩ := bindO g1
      obtain ⟨u', hu2, g3⟩ := bindO g2
      obtain ⟨k', hye⟩ := nat_eq (E.opd hy hu1) hi
      split at g3
      · rename_i cs
        split at g3
        · rename_i hc
          obtain ⟨z, hz, e⟩ := bindO g3
          cases e
          obtain ⟨xs, hxe, hl, hr⟩ := (E.opd hx hu2).agg_eq
          obtain ⟨y'', hy'', hr'⟩ := hr.nth hz
          refine .pureVal E.H ?_ hr'
          rw [hxe, hye]
          unfold Instr.index
          rw [runB (run_asIntOf _ _ w), runB (run_underlying hu w)]
          simp only
          rw [if_pos (by omega), runB (run_sizeOf hn w), Int.toNat_natCast, Nat.mul_one]
          exact run_part1 hagg (by simpa using hy'') w
        · cases g3
      · cases g3
    · cases hci
  · cases hci

theorem ok_typeAssert (E : Env P C ρ ns ls fr a H w) {x : Operand} {xt t : TypeId} {okc : Bool} (hci : opP P C ns (.typeAssert x xt t okc) = some ci) (hev : ci.ev ls fr H = some (v, H')) :
    OpOk P C.ng ρ H w (do pure (.value (← Instr.typeAssert (a.eval x) xt t okc))) v H' := by
  simp only [opP] at hci
  split at hci
  · cases hci
  · rename_i d hni hu
    split at hci
    · rename_i z y hz hy
      cases hci
      obtain ⟨zv, hz1, hz2⟩ := run_zero hz w
      obtain ⟨u, hu1, g1⟩ := bindO hev
      have pair : ∀ {p : AV} {q : Value} {b : Bool}, RX ρ p [q] → RX ρ (.tuple (.cons p (.cons (.bool b) .nil))) [.tuple #[q, .bool b]] := fun h => ⟨_, rfl, rfl, _, _, rfl, h, _, _, rfl, rfl, rfl⟩
      split at g1
      · split at g1
        · rename_i hok
          cases g1
          have hxe : a.eval x = .nilIface := by have := E.opd hy hu1; simpa [RX] using this
          refine .pureVal E.H (x := .tuple #[zv, .bool false]) ?_ (pair (hz2 ρ))
          rw [hxe]
          subst hok
          unfold Instr.typeAssert
          rw [runB (run_underlying hu w)]
          cases d <;> first | exact (hni _ rfl).elim | (simp only [if_true]; rw [runB hz1]; rfl)
        · cases g1
      · rename_i t' v'
        obtain ⟨xv, hxe, hr⟩ := (E.opd hy hu1).iface_eq
        split at g1
        · rename_i he
          cases g1
          subst he
          refine .pureVal E.H (x := if okc then .tuple #[xv, .bool true] else xv) ?_ (by cases okc; exact hr; exact pair hr)
          rw [hxe]
          unfold Instr.typeAssert
          rw [runB (run_underlying hu w)]
          cases d <;> first | exact (hni _ rfl).elim | (simp only [if_true]; rfl)
        · split at g1
          · rename_i hne hok
            cases g1
            refine .pureVal E.H (x := .tuple #[zv, .bool false]) ?_ (pair (hz2 ρ))
            rw [hxe]
            subst hok
            unfold Instr.typeAssert
            rw [runB (run_underlying hu w)]
            cases d <;> first | exact (hni _ rfl).elim | (simp only [hne, if_false, if_true]; rw [runB hz1]; rfl)
          · cases g1
      · cases g1
    · cases hci
  · cases hci

end
end Go.Dx
