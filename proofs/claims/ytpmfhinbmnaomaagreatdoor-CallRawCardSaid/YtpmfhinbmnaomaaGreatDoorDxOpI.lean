/-
  Operations, ninth part: copy, clear, lengths; and all of them together.
-/
import Derived.Test.YtpmfhinbmnaomaaGreatDoorDxOpH
import Derived.Test.YtpmfhinbmnaomaaGreatDoorDxExt
set_option linter.unusedSimpArgs false
set_option linter.unusedVariables false
set_option linter.unusedSectionVars false
namespace Go.Dx

section
variable {P : Program} {C : Ctx} {ρ : Ren} {ns : List (Option Tmp)} {ls : AV} {fr : Tr AV} {a : Act} {H H' : Heap} {w : World} {v : AV} {ci : CI} {o : Oper}

/-- Cells laid over a slice's first ones. -/
theorem putAt_ok {ng : Nat} (hH : HRel P ng ρ H w) {dst cs : AV} {x : Value} {xs : List Value} {m : Nat} (hd : RX ρ dst [x]) (hl : lenOf dst = some m) (hc : RX ρ cs xs) (hi : cs.isList = true) (h : putAt H dst cs = some H') :
    ∃ base cap w', x = .slice base m cap ∧ (base = none → m = 0) ∧ (match base with | some b => storeCells b xs | none => pure () : Sem Unit).run P w = .ok () w' ∧ HRel P ng ρ H' w' ∧ Step ρ H w ρ H' w' := by
  have xs0 : cs.len = 0 → xs = [] := fun h0 => by apply List.eq_nil_of_length_eq_zero; rw [← hc.len hi, h0]
  unfold putAt at h
  split at h
  · rename_i h0
    have hx0 := xs0 h0
    subst hx0
    split at h
    · cases h
      have hx : x = .slice none 0 0 := by simpa [RX] using hd
      simp [lenOf] at hl
      subst hl
      exact ⟨none, 0, w, hx, fun _ => rfl, rfl, hH, Step.refl _ _ _⟩
    · rename_i p off n c
      cases h
      obtain ⟨L, hL, _, hx⟩ := hd.slice_eq
      simp [lenOf] at hl
      subst hl
      exact ⟨some _, c, w, hx, (fun h => by cases h), rfl, hH, Step.refl _ _ _⟩
    · rename_i p off n s
      cases h
      simp [lenOf] at hl
      subst hl
      obtain ⟨L, hL, hx⟩ := hd
      rcases hx with ⟨cap, _, _, hx⟩ | ⟨h00, _, o, hx⟩
      · exact ⟨some _, cap, w, by simpa using hx, (fun h => by cases h), rfl, hH, Step.refl _ _ _⟩
      · subst h00; exact ⟨some _, 0, w, by simpa using hx, (fun h => by cases h), rfl, hH, Step.refl _ _ _⟩
    · cases h
  · split at h
    · rename_i p off n c
      obtain ⟨L, hL, _, hx⟩ := hd.slice_eq
      simp [lenOf] at hl
      subst hl
      obtain ⟨w', r1, r2, r3⟩ := hH.store (P := P) h hL hc
      exact ⟨some _, c, w', hx, fun h => (by cases h), r1, r2, r3⟩
    · rename_i p off n s
      split at h
      · cases h
      · rename_i hn0
        simp [lenOf] at hl
        subst hl
        obtain ⟨L, hL, hx⟩ := hd
        rcases hx with ⟨cap, _, _, hx⟩ | ⟨h00, _⟩
        · obtain ⟨w', r1, r2, r3⟩ := hH.store (P := P) h hL hc
          exact ⟨some _, cap, w', by simpa using hx, fun h => (by cases h), r1, r2, r3⟩
        · exact absurd h00 hn0
    · cases h

/-- A call of a builtin that answers a value. -/
theorem run_builtin {c : Call} {b : Builtin} (hb : c.callee = .builtin b) (type : TypeId) (w : World) :
    (do let d ← resolve a.eval c type; invoke d.target d.args : Sem Next).run P w = (builtin b c.argTypes type (c.args.map fun | .const _ => true | _ => false) (c.args.map a.eval)).run P w := by
  unfold resolve
  simp only [hb]
  rw [runB (runP P _ w)]
  rfl

theorem ok_call (E : Env P C ρ ns ls fr a H w) {c : Call} (hci : opP P C ns (.call c) = some ci) (hnc : ci.isCall = false) (hev : ci.ev ls fr H = some (v, H')) (type : TypeId) :
    OpOk P C.ng ρ H w (do let d ← resolve a.eval c type; invoke d.target d.args) v H' := by
  simp only [opP] at hci
  unfold callP at hci
  split at hci
  · split at hci
    · split at hci
      · simp only [Option.map_eq_some_iff] at hci
        obtain ⟨as, _, rfl⟩ := hci
        cases hnc
      · split at hci
        · rename_i f hcal _ fn hf _ hx
          obtain ⟨hb, hnm, hnx⟩ := hx
          split at hci
          · rename_i x y hl
            split at hci
            · rename_i x' y' hx' hy'
              cases hci
              obtain ⟨callee, args, argTypes⟩ := c
              try simp only at hl
              try simp only at hcal
              subst hcal
              obtain ⟨xv, hxv, g1⟩ := bindO hev
              obtain ⟨yv, hyv, g2⟩ := bindO g1
              split at g2
              · rename_i l n b
                split at g2
                · rename_i hb256
                  cases g2
                  have h2 : args.map a.eval = #[a.eval x, a.eval y] := by
                    have : args = #[x, y] := by rw [← Array.toArray_toList (xs := args), hl]
                    rw [this]; simp
                  have rx := E.opd hx' hxv
                  have ry := E.opd hy' hyv
                  obtain ⟨_, ex⟩ := rx.str_eq
                  have ey : a.eval y = .int .u8 (b : Int) := by simpa [RX, kindOf] using ry
                  refine ⟨ρ, w, .int .i64 (Lib.indexByte (bytesL n 0 l) b.toUInt8), _, ?_, .inl rfl, ?_, E.H, Step.refl _ _ _⟩
                  · show (do let d ← resolve a.eval { callee := .value (.func f), args := args, argTypes := argTypes } type; invoke d.target d.args : Sem Next).run P w = _
                    have e1 : (resolve a.eval { callee := .value (.func f), args := args, argTypes := argTypes } type).run P w = .ok { target := .fn (.func f) #[], args := #[] ++ args.map a.eval } w := rfl
                    rw [runB e1]
                    show (callFunc f ((#[] ++ args.map a.eval) ++ #[])).run P w = _
                    rw [h2, ex, ey]
                    show (callFunc f #[.string (textOf l n), .int .u8 (b : Int)]).run P w = _
                    rw [run_callFunc_extern hf (by rw [hnm]; rfl) hb (by simpa using hnx) (find_indexByte hnm), Lib.run_indexByteString]
                    rfl
                  · have := idxByteF_eq n b hb256 l 0
                    have e0 : idxByteF n b l 0 = Lib.indexByte (bytesL n 0 l) b.toUInt8 := by
                      rw [this]; split <;> simp_all
                    rw [e0]
                    simp [RX, kindOf]
                · cases g2
              · cases g2
            · cases hci
          · cases hci
        · cases hci
    · cases hci
  · split at hci
    · cases hci; cases hnc
    · cases hci
  · cases hci
  · rename_i b hb
    obtain ⟨callee, args, argTypes⟩ := c
    simp only at hb hci
    subst hb
    have red : ∀ {s : Sem Value}, (builtin b argTypes type (args.map fun | .const _ => true | _ => false) (args.map a.eval) = (do pure (.value (← s)) : Sem Next)) → OpOk P C.ng ρ H w (do pure (.value (← s))) v H' →
        OpOk P C.ng ρ H w (do let d ← resolve a.eval { callee := .builtin b, args, argTypes } type; invoke d.target d.args) v H' := by
      intro s hs hok
      obtain ⟨ρ', w', x, nx, h1, h2⟩ := hok
      refine ⟨ρ', w', x, nx, ?_, h2⟩
      rw [run_builtin rfl, hs]
      exact h1
    have one : ∀ {x : Operand}, args.toList = [x] → args.map a.eval = #[a.eval x] := fun {x} h => by
      have : args = #[x] := by rw [← Array.toArray_toList (xs := args), h]
      rw [this]; simp
    have two : ∀ {x y : Operand}, args.toList = [x, y] → args.map a.eval = #[a.eval x, a.eval y] := fun {x y} h => by
      have : args = #[x, y] := by rw [← Array.toArray_toList (xs := args), h]
      rw [this]; simp
    have ty0 : ∀ {t : TypeId} {r : List TypeId}, argTypes.toList = t :: r → argTypes[0]? = some t := fun h => by
      rw [← Array.getElem?_toList, h]; rfl
    have ty1 : ∀ {t u : TypeId} {r : List TypeId}, argTypes.toList = t :: u :: r → argTypes[1]? = some u := fun h => by
      rw [← Array.getElem?_toList, h]; rfl
    split at hci
    · -- append
      rename_i x y t u tr ha ht
      refine red (s := Builtin.append_ argTypes type (args.map a.eval)) rfl ?_
      rw [two ha]
      split at hci
      · rename_i e d hu hd
        split at hci
        · rename_i z n x' y' hz hn hx hy
          split at hci
          · cases hci
          · rename_i hc
            simp only [not_or, Bool.not_eq_true, Bool.not_eq_false'] at hc
            have fin : ∀ {d : TypeDesc}, P.underlying u = some d → ((∃ e', d = .slice e') ∨ d = .string) → ci = .append z n x' y' → OpOk P C.ng ρ H w (do pure (.value (← Builtin.append_ argTypes type #[a.eval x, a.eval y]))) v H' := by
              intro d hd hdd hcc
              subst hcc
              obtain ⟨xv, hxv, g1⟩ := bindO hev
              obtain ⟨yv, hyv, g2⟩ := bindO g1
              obtain ⟨k, hk, g3⟩ := bindO g2
              obtain ⟨new, hnew, g4⟩ := bindO g3
              obtain ⟨xs, q1, q2, q3, q4⟩ := drewSrc (P := P) (e := e) E.H (E.opd hy hyv) hk hnew hd hdd
              exact .ofVal (appendC_ok E (ty0 ht) (ty1 ht) hu hn hc.1 hz hc.2 (E.opd hx hxv) q1 q2 q3 q4 g4 type)
            split at hci
            · cases hci
              exact fin hd (.inl ⟨_, rfl⟩) rfl
            · split at hci
              · cases hci
                exact fin hd (.inr rfl) rfl
              · cases hci
            · rename_i k
              cases hci
              obtain ⟨yv, hyv, g1⟩ := bindO hev
              obtain ⟨m, hm, g2⟩ := bindO g1
              split at g2
              · rename_i hcm
                obtain ⟨xv, hxv, g3⟩ := bindO g2
                obtain ⟨zv, n', z1, z2, z3, z4, z5, z6⟩ := zeroCells_all hz
                rw [hn] at z3; cases z3
                obtain ⟨k', hye⟩ := nat_eq (E.opd hy hyv) hm
                have hzl : ((Array.range (m * n)).map (zv.cells[· % zv.cells.size]!)).toList = (List.replicate m zv.cells.toList).flatten := by
                  rw [← z6]; exact zeros_list (by rw [z6]; omega)
                have src : ∀ d, Src P { w with drawn := d } e n u (a.eval y) m ((List.replicate m zv.cells.toList).flatten).toArray := fun d => by
                  rw [← hzl]
                  exact .zeros k hd k' hye hcm.1 zv z1 z6 rfl
                obtain ⟨l1, l2⟩ := repl_len z z5 m
                exact .ofVal (appendC_ok E (ty0 ht) (ty1 ht) hu hn hc.1 hz hc.2 (E.opd hx hxv) src (repl_rel (z2 ρ) z5 m) l2 (by rw [l1, z4]) g3 type)
              · cases g2
            · cases hci
        · cases hci
      · cases hci
    · -- len
      rename_i x t tr ha ht
      refine red (s := Builtin.len_ argTypes type (args.map a.eval)) rfl ?_
      rw [one ha]
      split at hci
      · rename_i x' hu hx
        cases hci
        obtain ⟨u, hu1, g1⟩ := bindO hev
        split at g1
        · rename_i l n
          cases g1
          obtain ⟨_, hxe⟩ := (E.opd hx hu1).str_eq
          refine .pureVal E.H (x := .int .i64 l) ?_ ⟨by decide, rfl⟩
          rw [hxe]
          unfold Builtin.len_
          simp only [ty0 ht, List.getElem?_toArray, List.getElem?_cons_zero]
          rw [runB (run_underlying hu w)]
          simp only
          rw [textOf_size]
          rfl
        · cases g1
      · rename_i e x' hu hx
        cases hci
        obtain ⟨u, hu1, g1⟩ := bindO hev
        have sl : ∀ {ad : Option Addr} {n c : Nat}, a.eval x = .slice ad n c → v = .int 3 n → H' = H → OpOk P C.ng ρ H w (do pure (.value (← Builtin.len_ argTypes type #[a.eval x]))) v H' := by
          intro ad n c hxe hv hH
          subst hv hH
          refine .pureVal E.H (x := .int .i64 n) ?_ ⟨by decide, rfl⟩
          rw [hxe]
          unfold Builtin.len_
          simp only [ty0 ht, List.getElem?_toArray, List.getElem?_cons_zero]
          rw [runB (run_underlying hu w)]
          rfl
        split at g1
        · cases g1
          exact sl (n := 0) (by have := E.opd hx hu1; simpa [RX] using this) rfl rfl
        · cases g1
          obtain ⟨L, _, _, hxe⟩ := (E.opd hx hu1).slice_eq
          exact sl hxe rfl rfl
        · cases g1
          obtain ⟨L, _, hxe⟩ := E.opd hx hu1
          rcases hxe with ⟨cap, _, _, hxe⟩ | ⟨h0, _, _, hxe⟩
          · exact sl (by simpa using hxe) rfl rfl
          · subst h0; exact sl (by simpa using hxe) rfl rfl
        · cases g1
      · rename_i k e x' hu hx
        cases hci
        obtain ⟨u, hu1, g1⟩ := bindO hev
        split at g1
        · cases g1
          have hxe : a.eval x = .map none := by have := E.opd hx hu1; simpa [RX] using this
          refine .pureVal E.H (x := .int .i64 0) ?_ ⟨by decide, rfl⟩
          rw [hxe]
          unfold Builtin.len_
          simp only [ty0 ht, List.getElem?_toArray, List.getElem?_cons_zero]
          rw [runB (run_underlying hu w)]
          rfl
        · rename_i p
          split at g1
          · rename_i es clock hp
            cases g1
            obtain ⟨L, hL, hxe⟩ := (E.opd hx hu1).map_eq
            obtain ⟨arr, har, hmr⟩ := E.H.mapAt hp hL
            refine .pureVal E.H (x := .int .i64 (es.size : Int)) ?_ ⟨by decide, rfl⟩
            rw [hxe]
            unfold Builtin.len_
            simp only [ty0 ht, List.getElem?_toArray, List.getElem?_cons_zero]
            rw [runB (run_underlying hu w)]
            simp only
            rw [runB (run_getMap har)]
            have : es.size = arr.size := by rw [hmr.size]; simp
            rw [this]
            rfl
          · cases g1
        · cases g1
      · rename_i n e x' hu hx
        cases hci
        cases hev
        refine .pureVal E.H (x := .int .i64 n) ?_ ⟨by decide, rfl⟩
        unfold Builtin.len_
        simp only [ty0 ht, List.getElem?_toArray, List.getElem?_cons_zero]
        rw [runB (run_underlying hu w)]
        cases a.eval x <;> rfl
      · cases hci
    · -- cap
      rename_i x t tr ha ht
      refine red (s := Builtin.cap_ argTypes type (args.map a.eval)) rfl ?_
      rw [one ha]
      split at hci
      · rename_i e x' hu hx
        cases hci
        obtain ⟨u, hu1, g1⟩ := bindO hev
        have sl : ∀ {ad : Option Addr} {n c : Nat}, a.eval x = .slice ad n c → v = .int 3 c → H' = H → OpOk P C.ng ρ H w (do pure (.value (← Builtin.cap_ argTypes type #[a.eval x]))) v H' := by
          intro ad n c hxe hv hH
          subst hv hH
          refine .pureVal E.H (x := .int .i64 c) ?_ ⟨by decide, rfl⟩
          rw [hxe]
          unfold Builtin.cap_
          simp only [ty0 ht, List.getElem?_toArray, List.getElem?_cons_zero]
          rw [runB (run_underlying hu w)]
          rfl
        split at g1
        · cases g1
          exact sl (c := 0) (n := 0) (by have := E.opd hx hu1; simpa [RX] using this) rfl rfl
        · cases g1
          obtain ⟨L, _, _, hxe⟩ := (E.opd hx hu1).slice_eq
          exact sl hxe rfl rfl
        · cases g1
      · cases hci
    · -- copy
      rename_i x y t u tr ha ht
      refine red (s := Builtin.copy_ argTypes type (args.map a.eval)) rfl ?_
      rw [two ha]
      split at hci
      · rename_i e d hu hd
        split at hci
        · rename_i n x' y' hn hx hy
          split at hci
          · cases hci
          · rename_i hn0
            have fin : ((∃ e', d = .slice e') ∨ d = .string) → ci = .copy n x' y' → OpOk P C.ng ρ H w (do pure (.value (← Builtin.copy_ argTypes type #[a.eval x, a.eval y]))) v H' := by
              intro hdd hcc
              subst hcc
              obtain ⟨dst, hdst, g1⟩ := bindO hev
              obtain ⟨src, hsrc, g2⟩ := bindO g1
              obtain ⟨ns', hns, g3⟩ := bindO g2
              obtain ⟨nd, hnd, g4⟩ := bindO g3
              obtain ⟨cs, hcs, g5⟩ := bindO g4
              obtain ⟨H1, hput, g6⟩ := bindO g5
              cases g6
              have key : ∃ xs : List Value, (Builtin.firstCells n (Nat.min ns' nd) (a.eval y)).run P w = .ok xs.toArray w ∧ RX ρ cs xs ∧ cs.isList = true := by
                have hux := E.opd hy hsrc
                unfold srcCells at hcs
                split at hcs
                · rename_i l m
                  split at hcs
                  · rename_i hle
                    cases hcs
                    obtain ⟨hle, h1⟩ := hle
                    obtain ⟨b1, b2, b3⟩ := bytesFrom_rel ρ m (Nat.min ns' nd) 0
                    obtain ⟨hlt, hye⟩ := hux.str_eq
                    refine ⟨_, ?_, b1, b2⟩
                    rw [hye]
                    show Result.ok (((textOf l m).extract 0 (Nat.min ns' nd)).data.map fun b => Value.int .u8 (b.toNat : Int)) w = _
                    congr 1
                    rw [textOf_extract _ _ _ _ (by omega) hle]
                    simp only [Nat.pow_zero, Nat.div_one, Nat.sub_zero]
                    rw [textOf_data]
                    have : bytesL (m % 256 ^ (Nat.min ns' nd)) 0 (Nat.min ns' nd) = bytesL m 0 (Nat.min ns' nd) := by
                      apply bytesL_ext
                      · rw [bytesL_length]
                      · intro j hj
                        rw [bytesL_get m _ 0 j hj]
                        have := byteAt_cut m 0 (Nat.min ns' nd) (0 + j) (by omega)
                        simp only [Nat.pow_zero, Nat.div_one, Nat.zero_add] at this ⊢
                        rw [this]
                    rw [this]
                    simp
                  · cases hcs
                · obtain ⟨xs, r1, r2, r3, _, _⟩ := firstCells_rel (P := P) E.H hux hcs ⟨ns', hns, Nat.min_le_left _ _⟩
                  exact ⟨xs, r1 w rfl, r2, r3⟩
              obtain ⟨xs, r1, r2, r3⟩ := key
              obtain ⟨base, cap, w', p1, p2, p3, p4, p5⟩ := putAt_ok (P := P) E.H (E.opd hx hdst) hnd r2 r3 hput
              refine .ofVal ⟨ρ, w', .int .i64 (Nat.min ns' nd : Nat), ?_, ⟨by decide, rfl⟩, p4, p5⟩
              rw [p1]
              unfold Builtin.copy_
              simp only [ty0 ht, List.getElem?_toArray, List.getElem?_cons_zero, List.getElem?_cons_succ]
              rw [runB (run_underlying hu w)]
              simp only
              rw [runB (lenOf_rel (E.opd hy hsrc) hns), runB (run_sizeOf hn w), runB r1]
              cases base with
              | none => cases p3; rfl
              | some b => simp only at p3 ⊢; rw [runB p3]; rfl
            split at hci
            · cases hci; exact fin (.inl ⟨_, rfl⟩) rfl
            · split at hci
              · cases hci; exact fin (.inr rfl) rfl
              · cases hci
            · cases hci
        · cases hci
      · cases hci
    · -- clear
      rename_i x t tr ha ht
      refine red (s := Builtin.clear_ argTypes type (args.map a.eval)) rfl ?_
      rw [one ha]
      split at hci
      · rename_i e hu
        split at hci
        · rename_i z n x' hz hn hx
          split at hci
          · cases hci
          · rename_i hn0
            cases hci
            obtain ⟨dst, hdst, g1⟩ := bindO hev
            obtain ⟨m, hm, g2⟩ := bindO g1
            split at g2
            · cases g2
            · rename_i hzl
              obtain ⟨H1, hput, g3⟩ := bindO g2
              cases g3
              obtain ⟨zv, n', z1, z2, z3, z4, z5, z6⟩ := zeroCells_all hz
              rw [hn] at z3; cases z3
              have hzs : (Builtin.zeroCells zv.cells m).toList = (List.replicate m zv.cells.toList).flatten := by
                rw [zeroCells_eq _ _ _ z6, ← z6]; exact zeros_list (by rw [z6]; omega)
              obtain ⟨base, cap, w', p1, p2, p3, p4, p5⟩ := putAt_ok (P := P) E.H (E.opd hx hdst) hm (repl_rel (z2 ρ) z5 m) (repl_len z z5 m).2 hput
              refine .ofVal ⟨ρ, w', .tuple #[], ?_, RX.undef ρ, p4, p5⟩
              rw [p1]
              unfold Builtin.clear_
              simp only [ty0 ht, List.getElem?_toArray, List.getElem?_cons_zero]
              rw [runB (run_underlying hu w)]
              cases base with
              | none =>
                cases p3
                rfl
              | some b =>
                simp only at p3
                cases m with
                | zero =>
                  simp only [List.replicate_zero, List.flatten_nil] at p3
                  cases p3
                  rfl
                | succ m =>
                  simp only
                  rw [runB (z1 w), hzs, runB p3]
                  rfl
        · cases hci
      · cases hci
    · -- delete
      rename_i m x t tr ha ht
      refine red (s := Builtin.delete_ argTypes type (args.map a.eval)) rfl ?_
      rw [two ha]
      split at hci
      · rename_i k e hu
        split at hci
        · rename_i kk m' x' hk hm hx
          cases hci
          exact ok_delete E hu hk hm hx hev argTypes (ty0 ht) type
        · cases hci
      · cases hci
    · -- min
      rename_i x y t tr ha ht
      refine red (s := Builtin.min_ argTypes type (args.map a.eval)) rfl ?_
      rw [two ha]
      split at hci
      · rename_i k x' y' hu hx hy
        cases hci
        obtain ⟨u, hu1, g1⟩ := bindO hev
        obtain ⟨⟨c, m⟩, hj, g2⟩ := bindO g1
        obtain ⟨u', hu2, g3⟩ := bindO g2
        obtain ⟨⟨d, n⟩, hk, g4⟩ := bindO g3
        cases g4
        have e1 := asInt_eq hj
        have e2 := asInt_eq hk
        subst e1 e2
        obtain ⟨hc, hxe⟩ := (E.opd hx hu1).int_eq
        obtain ⟨_, hye⟩ := (E.opd hy hu2).int_eq
        refine .pureVal E.H (x := .int (kindOf c) (if n < m then n else m)) ?_ ⟨hc, rfl⟩
        rw [hxe, hye]
        rfl
      · cases hci
    · -- max
      rename_i x y t tr ha ht
      refine red (s := Builtin.max_ argTypes type (args.map a.eval)) rfl ?_
      rw [two ha]
      split at hci
      · rename_i k x' y' hu hx hy
        cases hci
        obtain ⟨u, hu1, g1⟩ := bindO hev
        obtain ⟨⟨c, m⟩, hj, g2⟩ := bindO g1
        obtain ⟨u', hu2, g3⟩ := bindO g2
        obtain ⟨⟨d, n⟩, hk, g4⟩ := bindO g3
        cases g4
        have e1 := asInt_eq hj
        have e2 := asInt_eq hk
        subst e1 e2
        obtain ⟨hc, hxe⟩ := (E.opd hx hu1).int_eq
        obtain ⟨_, hye⟩ := (E.opd hy hu2).int_eq
        refine .pureVal E.H (x := .int (kindOf c) (if n > m then n else m)) ?_ ⟨hc, rfl⟩
        rw [hxe, hye]
        rfl
      · cases hci
    · cases hci


end
end Go.Dx
