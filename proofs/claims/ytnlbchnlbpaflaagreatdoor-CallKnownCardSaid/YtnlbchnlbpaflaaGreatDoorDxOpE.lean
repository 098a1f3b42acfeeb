/-
  Operations, fifth part: maps; slices; converting; what appends, copies and clears.
-/
import Derived.Test.YtnlbchnlbpaflaaGreatDoorDxOpD
set_option linter.unusedSimpArgs false
set_option linter.unusedVariables false
set_option linter.unusedSectionVars false
namespace Go.Dx

section
variable {P : Program} {C : Ctx} {ρ : Ren} {ns : List (Option Tmp)} {ls : AV} {fr : Tr AV} {a : Act} {H H' : Heap} {w : World} {v : AV} {ci : CI} {o : Oper}

/-! Maps. -/
theorem HRel.mapAt {ng : Nat} (h : HRel P ng ρ H w) {p : Pos} {es : ME} {clock : Nat} {L : Loc} (hp : H.get p = some (.map es clock)) (hL : ρ p = some L) :
    ∃ arr, w.heap[L.b]? = some (.map arr clock) ∧ MR ρ es arr.toList := h.objs p _ L hp (by simp) hL

theorem run_getMap {b : Nat} {arr : Array MapEntry} {clock : Nat} (h : w.heap[b]? = some (.map arr clock)) : (getObj b).run P w = .ok (.map arr clock) w := by
  unfold getObj
  simp [Sem.run, h]

theorem run_setMap {b : Nat} {arr : Array MapEntry} {clock : Nat} (h : w.heap[b]? = some (.map arr clock)) (o : Obj) : (setObj b o).run P w = .ok () { w with heap := w.heap.setIfInBounds b o } := by
  unfold setObj
  simp [Sem.run, h]

theorem HRel.setMap {ng : Nat} (h : HRel P ng ρ H w) {p : Pos} {es es' : ME} {clock clock' : Nat} {L : Loc} (hp : H.get p = some (.map es clock)) (hL : ρ p = some L) {arr : Array MapEntry} (hm : MR ρ es' arr.toList) :
    HRel P ng ρ (H.put p (.map es' clock')) { w with heap := w.heap.setIfInBounds L.b (.map arr clock') } ∧ Step ρ H w ρ (H.put p (.map es' clock')) { w with heap := w.heap.setIfInBounds L.b (.map arr clock') } := by
  have hb := h.bound _ _ hL
  refine ⟨h.turn hp (by simp) hL (by simp) (fun b hb' => ?_) ⟨arr, ?_, hm⟩ (by simp), Step.turn h hp (by simp) (by simp) hL (by simp) (fun b hb' => ?_) rfl rfl rfl⟩
  · show (w.heap.setIfInBounds L.b _)[b]? = _
    rw [Array.getElem?_setIfInBounds_ne (by omega)]
  · show (w.heap.setIfInBounds L.b _)[L.b]? = _
    rw [Array.getElem?_setIfInBounds_self_of_lt hb]
  · show (w.heap.setIfInBounds L.b _)[b]? = _
    rw [Array.getElem?_setIfInBounds_ne (by omega)]

/-- Looking into a map: what is there, or that nothing is. -/
theorem mapLook_rel {ng : Nat} (hH : HRel P ng ρ H w) {t : TypeId} {kk : EK} (hd : KeyDesc P t kk) {key mv : AV} {kx mx : Value} (hk : RX ρ key [kx]) (hm : RX ρ mv [mx]) {r : Option AV} (h : mapLook H kk key mv = some r) :
    (mx = .map none ∧ r = none) ∨ ∃ b arr clock o, mx = .map (some b) ∧ w.heap[b]? = some (.map arr clock) ∧ (Instr.findKey t kx arr.toList).run P w = .ok (valAt arr.toList 0 o) w ∧
      ((o = none ∧ r = none) ∨ ∃ j u e, o = some j ∧ r = some u ∧ arr.toList[j]? = some e ∧ RX ρ u [e.val]) := by
  unfold mapLook at h
  split at h
  · cases h
    exact .inl ⟨by simpa [RX] using hm, rfl⟩
  · rename_i p
    split at h
    · rename_i es clock hp
      obtain ⟨L, hL, hme⟩ := hm.map_eq
      obtain ⟨arr, ha, hmr⟩ := hH.mapAt hp hL
      obtain ⟨o, ho, hres⟩ := find_firstAt (ρ := ρ) h
      exact .inr ⟨L.b, arr, clock, o, hme, ha, run_findKey hd hk hmr ho w, hres hmr⟩
    · cases h
  · cases h

theorem ok_lookup (E : Env P C ρ ns ls fr a H w) {t : TypeId} {m x : Operand} {okc : Bool} (hci : opP P C ns (.lookup t m x okc) = some ci) (hev : ci.ev ls fr H = some (v, H')) :
    OpOk P C.ng ρ H w (do pure (.value (← Instr.lookup t (a.eval m) (a.eval x) okc))) v H' := by
  simp only [opP] at hci
  split at hci
  · rename_i k e hu
    split at hci
    · rename_i kk z m' x' hk hz hm hx
      cases hci
      have hd := keyP_desc hk
      obtain ⟨zv, hz1, hz2⟩ := run_zero hz w
      obtain ⟨kx, hkx, g1⟩ := bindO hev
      obtain ⟨mv, hmv, g2⟩ := bindO g1
      split at g2
      · cases g2
      · rename_i hok
        simp only [Bool.not_eq_true, Bool.not_eq_false'] at hok
        obtain ⟨r, hr, g3⟩ := bindO g2
        cases g3
        have rk := E.opd hx hkx
        have hck := fun e => run_checkKey (w := w) hd rk hok e
        have pr : ∀ {u : AV} {q : Value} {b : Bool}, RX ρ u [q] → RX ρ (if okc then .tuple (.cons u (.cons (.bool b) .nil)) else u) [if okc then .tuple #[q, .bool b] else q] := by
          intro u q b hu
          cases okc
          · exact hu
          · exact ⟨_, rfl, rfl, _, _, rfl, hu, _, _, rfl, rfl, rfl⟩
        rcases mapLook_rel E.H hd rk (E.opd hm hmv) hr with ⟨hme, rfl⟩ | ⟨b, arr, clock, o, hme, ha, hf, ho⟩
        · refine .pureVal E.H (x := if okc then .tuple #[zv, .bool false] else zv) ?_ (pr (b := false) (hz2 ρ))
          rw [hme]
          unfold Instr.lookup
          rw [runB (run_underlying hu w)]
          simp only
          rw [runB (runP P _ w), runB (hck _)]
          have hf0 : (Instr.findKey k (a.eval x) (#[] : Array MapEntry).toList).run P w = .ok none w := run_findKey hd rk (m := .nil) (es := []) rfl rfl w
          rw [runB hf0]
          simp only
          rw [runB hz1]
          rfl
        · rcases ho with ⟨rfl, rfl⟩ | ⟨j, u, en, rfl, rfl, hen, hru⟩
          · refine .pureVal E.H (x := if okc then .tuple #[zv, .bool false] else zv) ?_ (pr (b := false) (hz2 ρ))
            rw [hme]
            unfold Instr.lookup
            rw [runB (run_underlying hu w)]
            simp only
            rw [runB (run_getMap ha)]
            simp only
            rw [runB (runP P _ w), runB (hck _), runB hf]
            simp only [valAt]
            rw [runB hz1]
            rfl
          · refine .pureVal E.H (x := if okc then .tuple #[en.val, .bool true] else en.val) ?_ (pr (b := true) hru)
            rw [hme]
            unfold Instr.lookup
            rw [runB (run_underlying hu w)]
            simp only
            rw [runB (run_getMap ha)]
            simp only
            rw [runB (runP P _ w), runB (hck _), runB hf]
            simp only [valAt, hen, Option.map_some]
            rfl
    · cases hci
  · cases hci

theorem ok_update (E : Env P C ρ ns ls fr a H w) {t : TypeId} {m x y : Operand} (hci : opP P C ns (.mapUpdate t m x y) = some ci) (hev : ci.ev ls fr H = some (v, H')) :
    OpOk P C.ng ρ H w (do Instr.mapUpdate t (a.eval m) (a.eval x) (a.eval y); pure .skip) v H' := by
  simp only [opP] at hci
  split at hci
  · rename_i k e hu
    split at hci
    · rename_i kk m' x' y' hk hm hx hy
      cases hci
      have hd := keyP_desc hk
      obtain ⟨kx, hkx, g1⟩ := bindO hev
      obtain ⟨vv, hvv, g2⟩ := bindO g1
      obtain ⟨mv, hmv, g3⟩ := bindO g2
      split at g3
      · cases g3
      · rename_i hok
        simp only [Bool.not_eq_true, Bool.not_eq_false'] at hok
        obtain ⟨H1, h1, g4⟩ := bindO g3
        cases g4
        have rk := E.opd hx hkx
        have rv := E.opd hy hvv
        have rm := E.opd hm hmv
        have hck := fun e => run_checkKey (w := w) hd rk hok e
        unfold mapPut at h1
        split at h1
        · rename_i p
          split at h1
          · rename_i es clock hp
            simp only [Option.map_eq_some_iff] at h1
            obtain ⟨⟨es', fresh⟩, hput, rfl⟩ := h1
            obtain ⟨L, hL, hme⟩ := rm.map_eq
            obtain ⟨arr, ha, hmr⟩ := E.H.mapAt hp hL
            obtain ⟨o, ho, hres⟩ := put_firstAt (ρ := ρ) hput
            have hf := run_findKey (P := P) hd rk hmr ho w
            have hplace := (run_findAsking (P := P) (w := w) hd rk es arr.toList 0 o hmr ho).2
            rcases hres hmr rk rv with ⟨rfl, rfl, hm'⟩ | ⟨j, rfl, rfl, hm'⟩
            · have key := E.H.setMap (clock' := clock + 1) (es' := es') hp hL (arr := arr.push ⟨a.eval x, a.eval y, clock⟩) (by simpa using hm')
              refine .ofSkip ⟨_, ?_, key.1, key.2⟩
              rw [hme]
              unfold Instr.mapUpdate
              rw [runB (run_underlying hu w)]
              simp only
              rw [runB (run_getMap ha)]
              simp only
              rw [runB (hck _), runB hf]
              simp only [valAt]
              exact run_setMap ha _
            · obtain ⟨hjl, en, hen, hkey, hsame⟩ := hplace j rfl
              have key := E.H.setMap (clock' := clock) (es' := es') hp hL (arr := arr.modify j fun e => { e with key := a.eval x, val := a.eval y }) (by rw [Array.toList_modify]; exact hm')
              refine .ofSkip ⟨_, ?_, key.1, key.2⟩
              rw [hme]
              unfold Instr.mapUpdate
              rw [runB (run_underlying hu w)]
              simp only
              rw [runB (run_getMap ha)]
              simp only
              rw [runB (hck _), runB hf]
              have hen' : arr[j]? = some en := by simpa using hen
              simp only [valAt, hen, Option.map_some, Nat.zero_add, hen', Option.getD_some]
              have hkeep : (Instr.keyThatStays en.key (a.eval x)).run P w = .ok (a.eval x) w := by
                unfold Instr.keyThatStays
                rw [if_pos hsame]
                rfl
              rw [runB hkeep]
              exact run_setMap ha _
          · cases h1
        · cases h1
    · cases hci
  · cases hci

theorem ok_delete (E : Env P C ρ ns ls fr a H w) {t : TypeId} {m x : Operand} {k e : TypeId} {kk : EK} {m' x' : Opd} (hu : P.underlying t = some (.map k e)) (hk : keyP P k = some kk) (hm : Dx.opd C ns m = some m') (hx : Dx.opd C ns x = some x')
    (hev : (CI.delete kk m' x').ev ls fr H = some (v, H')) (ts : Array TypeId) (hts : ts[0]? = some t) (r : TypeId) :
    OpOk P C.ng ρ H w (do pure (.value (← Builtin.delete_ ts r #[a.eval m, a.eval x]))) v H' := by
  have hd := keyP_desc hk
  obtain ⟨kx, hkx, g1⟩ := bindO hev
  obtain ⟨mv, hmv, g2⟩ := bindO g1
  split at g2
  · cases g2
  · rename_i hok
    simp only [Bool.not_eq_true, Bool.not_eq_false'] at hok
    obtain ⟨H1, h1, g3⟩ := bindO g2
    cases g3
    have rk := E.opd hx hkx
    have rm := E.opd hm hmv
    have hck := fun e => run_checkKey (w := w) hd rk hok e
    have undefR : ∀ ρ', RX ρ' undefA [.tuple #[]] := fun ρ' => RX.undef ρ'
    unfold mapDel at h1
    split at h1
    · cases h1
      have hme : a.eval m = .map none := by simpa [RX] using rm
      refine .pureVal E.H ?_ (undefR ρ)
      rw [hme]
      unfold Builtin.delete_
      simp only [hts, List.getElem?_toArray, List.getElem?_cons_zero, List.getElem?_cons_succ]
      rw [runB (run_underlying hu w)]
      simp only
      rw [runB (hck _)]
      rfl
    · rename_i p
      split at h1
      · rename_i es clock hp
        simp only [Option.map_eq_some_iff] at h1
        obtain ⟨es', hdel, rfl⟩ := h1
        obtain ⟨L, hL, hme⟩ := rm.map_eq
        obtain ⟨arr, ha, hmr⟩ := E.H.mapAt hp hL
        obtain ⟨o, ho, hres⟩ := del_firstAt (ρ := ρ) hdel
        have hf := run_findKey (P := P) hd rk hmr ho w
        have hplace := (run_findAsking (P := P) (w := w) hd rk es arr.toList 0 o hmr ho).2
        rcases hres hmr with ⟨rfl, hm'⟩ | ⟨j, rfl, hm'⟩
        · have key := E.H.setMap (clock' := clock) (es' := es') hp hL (arr := arr) hm'
          refine .ofVal ⟨ρ, _, .tuple #[], ?_, undefR ρ, key.1, key.2⟩
          rw [hme]
          unfold Builtin.delete_
          simp only [hts, List.getElem?_toArray, List.getElem?_cons_zero, List.getElem?_cons_succ]
          rw [runB (run_underlying hu w)]
          simp only
          rw [runB (run_getMap ha)]
          simp only
          rw [runB (hck _), runB hf]
          simp only [valAt]
          rw [runB (run_setMap ha _)]
          rfl
        · obtain ⟨hjl, en, hen, _, _⟩ := hplace j rfl
          have key := E.H.setMap (clock' := clock) (es' := es') hp hL (arr := arr.eraseIdxIfInBounds j) (by
            have : (arr.eraseIdxIfInBounds j).toList = arr.toList.eraseIdx j := by
              have hj : j < arr.size := by simpa using hjl
              rw [Array.eraseIdxIfInBounds, dif_pos hj, Array.toList_eraseIdx]
            rw [this]; exact hm')
          refine .ofVal ⟨ρ, _, .tuple #[], ?_, undefR ρ, key.1, key.2⟩
          rw [hme]
          unfold Builtin.delete_
          simp only [hts, List.getElem?_toArray, List.getElem?_cons_zero, List.getElem?_cons_succ]
          rw [runB (run_underlying hu w)]
          simp only
          rw [runB (run_getMap ha)]
          simp only
          rw [runB (hck _), runB hf]
          simp only [valAt, hen, Option.map_some, Nat.zero_add]
          rw [runB (run_setMap ha _)]
          rfl
      · cases h1
    · cases h1

end
end Go.Dx
