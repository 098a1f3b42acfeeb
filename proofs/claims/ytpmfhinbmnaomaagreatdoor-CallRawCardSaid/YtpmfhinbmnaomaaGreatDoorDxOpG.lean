/-
  Maps whose keys are pointers.
-/
import Derived.Test.YtpmfhinbmnaomaaGreatDoorDxOpD
set_option linter.unusedSimpArgs false
set_option linter.unusedVariables false
set_option linter.unusedSectionVars false
namespace Go.Dx
variable {P : Program} {ρ : Ren} {H H' : Heap} {w : World} {ng : Nat}

def firstAtB (c : AV → Option Bool) : ME → Option (Option Nat)
  | .nil => some none
  | .cons y _ _ r =>
    match c y with
    | some true => some (some 0)
    | some false => (firstAtB c r).map fun o => o.map (· + 1)
    | none => none

theorem run_findAskingB {t : TypeId} {c : AV → Option Bool} {kx : Value} (hc : ∀ y ky b, RX ρ y [ky] → c y = some b → (Op.equal t kx ky).run P w = .ok b w ∧ (b = true → ky = kx ∧ Instr.sameBits 10000 ky kx = true)) : ∀ (m : ME) (es : List MapEntry) (i : Nat) (o : Option Nat), MR ρ m es → firstAtB c m = some o →
    (Instr.findAsking t kx es i).run P w = .ok (valAt es i o) w ∧ (∀ j, o = some j → j < es.length ∧ ∃ e, es[j]? = some e ∧ e.key = kx ∧ Instr.sameBits 10000 e.key kx = true) := by
  intro m
  induction m with
  | nil => intro es i o hm ho; cases hm; simp [firstAtB] at ho; subst ho; exact ⟨rfl, fun j hj => by cases hj⟩
  | cons y v b r ih =>
    intro es i o hm ho
    obtain ⟨e, es', rfl, h1, h2, h3, h4⟩ := hm
    simp only [firstAtB] at ho
    split at ho
    · rename_i he
      cases ho
      obtain ⟨e1, e2⟩ := (hc _ _ _ h1 he).2 rfl
      refine ⟨?_, ?_⟩
      · unfold Instr.findAsking
        rw [runB (hc _ _ _ h1 he).1]
        rfl
      · intro j hj
        cases hj
        exact ⟨by simp, e, rfl, e1, e2⟩
    · rename_i he
      simp only [Option.map_eq_some_iff] at ho
      obtain ⟨o', ho', rfl⟩ := ho
      obtain ⟨r1, r2⟩ := ih es' (i + 1) o' h4 ho'
      refine ⟨?_, ?_⟩
      · unfold Instr.findAsking
        rw [runB (hc _ _ _ h1 he).1]
        simp only [Bool.false_eq_true, if_false]
        rw [r1]
        cases o' with
        | none => rfl
        | some j => simp only [valAt, Option.map_some, List.getElem?_cons_succ]; congr 2; funext e; simp; omega
      · intro j hj
        cases o' with
        | none => cases hj
        | some j' =>
          cases hj
          obtain ⟨q1, e', q2, q3⟩ := r2 j' rfl
          exact ⟨by simp; omega, e', by simpa using q2, q3⟩
    · cases ho

theorem findBy_firstAt {c : AV → Option Bool} : ∀ {m : ME} {r : Option AV}, m.findBy c = some r → ∃ o, firstAtB c m = some o ∧
    (∀ {es : List MapEntry}, MR ρ m es → (o = none ∧ r = none) ∨ ∃ j v e, o = some j ∧ r = some v ∧ es[j]? = some e ∧ RX ρ v [e.val]) := by
  intro m
  induction m with
  | nil => intro r h; simp [ME.findBy] at h; subst h; exact ⟨none, rfl, fun _ => .inl ⟨rfl, rfl⟩⟩
  | cons y v b rest ih =>
    intro r h
    simp only [ME.findBy] at h
    split at h
    · rename_i he
      cases h
      refine ⟨some 0, by simp [firstAtB, he], fun hm => .inr ?_⟩
      obtain ⟨e, es', rfl, _, h2, _, _⟩ := hm
      exact ⟨0, v, e, rfl, rfl, rfl, h2⟩
    · rename_i he
      obtain ⟨o, ho, hres⟩ := ih h
      refine ⟨o.map (· + 1), by simp [firstAtB, he, ho], fun hm => ?_⟩
      obtain ⟨e, es', rfl, _, h2, _, h4⟩ := hm
      rcases hres h4 with ⟨rfl, rfl⟩ | ⟨j, v', e', rfl, rfl, q1, q2⟩
      · exact .inl ⟨rfl, rfl⟩
      · exact .inr ⟨j + 1, v', e', rfl, rfl, by simpa using q1, q2⟩
    · cases h

theorem putBy_firstAt {c : AV → Option Bool} {x u : AV} {clock : Nat} : ∀ {m m' : ME} {fresh : Bool}, m.putBy c x u clock = some (m', fresh) → ∃ o, firstAtB c m = some o ∧
    (∀ {es : List MapEntry} {kx vx : Value}, MR ρ m es → RX ρ x [kx] → RX ρ u [vx] →
      (o = none ∧ fresh = true ∧ MR ρ m' (es ++ [⟨kx, vx, clock⟩])) ∨ ∃ j, o = some j ∧ fresh = false ∧ MR ρ m' (es.modify j fun e => { e with key := kx, val := vx })) := by
  intro m
  induction m with
  | nil =>
    intro m' fresh h
    simp [ME.putBy] at h
    obtain ⟨rfl, rfl⟩ := h
    refine ⟨none, rfl, fun hm hk hv => .inl ⟨rfl, rfl, ?_⟩⟩
    cases hm
    exact ⟨_, [], rfl, hk, hv, rfl, rfl⟩
  | cons y v b rest ih =>
    intro m' fresh h
    simp only [ME.putBy] at h
    split at h
    · rename_i he
      cases h
      refine ⟨some 0, by simp [firstAtB, he], fun hm hk hv => .inr ⟨0, rfl, rfl, ?_⟩⟩
      obtain ⟨e, es', rfl, _, _, h3, h4⟩ := hm
      exact ⟨_, es', rfl, hk, hv, h3, h4⟩
    · rename_i he
      simp only [Option.map_eq_some_iff] at h
      obtain ⟨⟨m1, f1⟩, h1, e1⟩ := h
      cases e1
      obtain ⟨o, ho, hres⟩ := ih h1
      refine ⟨o.map (· + 1), by simp [firstAtB, he, ho], fun hm hk hv => ?_⟩
      obtain ⟨e, es', rfl, q1, q2, q3, q4⟩ := hm
      rcases hres q4 hk hv with ⟨rfl, hf, hm'⟩ | ⟨j, rfl, hf, hm'⟩
      · exact .inl ⟨rfl, hf, e, _, rfl, q1, q2, q3, hm'⟩
      · exact .inr ⟨j + 1, rfl, hf, e, _, rfl, q1, q2, q3, hm'⟩
    · cases h


theorem run_findKeyB {t e : TypeId} (hu : P.underlying t = some (.pointer e)) {c : AV → Option Bool} {kx : Value} (hc : ∀ y ky b, RX ρ y [ky] → c y = some b → (Op.equal t kx ky).run P w = .ok b w ∧ (b = true → ky = kx ∧ Instr.sameBits 10000 ky kx = true)) {m : ME} {es : List MapEntry} {o : Option Nat} (hm : MR ρ m es) (ho : firstAtB c m = some o) :
    (Instr.findKey t kx es).run P w = .ok (valAt es 0 o) w := by
  have ha := (run_findAskingB hc m es 0 o hm ho).1
  unfold Instr.findKey
  rw [runB (run_underlying hu w)]
  cases es with
  | nil =>
    cases m with
    | nil => simp [firstAtB] at ho; subst ho; rfl
    | cons y v b r => obtain ⟨_, _, e, _⟩ := hm; cases e
  | cons e' es' =>
    have : Instr.findNow (.pointer e) kx (e' :: es') 0 = none := by
      simp only [Instr.findNow]
      have hn : ∀ a b, Instr.sameNow (.pointer e) a b = none := fun a b => by cases a <;> cases b <;> rfl
      rw [hn]
    rw [this]
    exact ha

theorem run_checkPtr {t e : TypeId} (hu : P.underlying t = some (.pointer e)) (b : Bool) (kx : Value) (w : World) : (Instr.checkKey b 10000 t kx).run P w = .ok () w := by
  unfold Instr.checkKey
  rw [runB (run_underlying hu w)]
  rfl

theorem ptrP_spec {t : TypeId} (h : ptrP P t = true) : ∃ e, P.underlying t = some (.pointer e) ∧ (sizeP P e).getD 0 ≠ 0 := by
  unfold ptrP at h
  split at h
  · rename_i e hu; exact ⟨e, hu, by simpa using h⟩
  · cases h

theorem ptrIs_ok {t : TypeId} (h : ptrP P t = true) (hH : HRel P ng ρ H w) {p : Pos} {off : Nat} (hp : H.closed p = true) {kx : Value} (hk : RX ρ (.ptr p off) [kx]) :
    ∀ y ky b, RX ρ y [ky] → ptrIs H p off y = some b → (Op.equal t kx ky).run P w = .ok b w ∧ (b = true → ky = kx ∧ Instr.sameBits 10000 ky kx = true) := by
  intro y ky b hy hb
  obtain ⟨e, hu, hz⟩ := ptrP_spec h
  cases y with
  | ptr q u =>
    simp only [ptrIs] at hb
    have he : eqA H .ptr (.ptr p off) (.ptr q u) = some b := by
      simp only [eqA]
      split at hb
      · rename_i e; rw [if_pos e]; exact hb
      · rename_i e
        rw [if_neg e]
        split at hb
        · rename_i hq; rw [hp, hq]; exact hb
        · cases hb
    refine ⟨run_equal (k := .ptr) ⟨e, hu, hz⟩ hH hk hy he, fun hbt => ?_⟩
    subst hbt
    split at hb
    · rename_i e
      subst e
      have : off = u := by simpa using hb
      subst this
      obtain ⟨L, hL, rfl⟩ := hk.ptr_eq
      obtain ⟨M, hM, rfl⟩ := hy.ptr_eq
      rw [hL] at hM
      cases hM
      exact ⟨rfl, by simp [Instr.sameBits]⟩
    · split at hb <;> cases hb
  | _ => cases hb

/-- Looking into a map of pointers. -/
theorem mapLookP_rel (hH : HRel P ng ρ H w) {t e : TypeId} (hu : P.underlying t = some (.pointer e)) {p : Pos} {off : Nat} {mv : AV} {kx mx : Value}
    (hc : ∀ y ky b, RX ρ y [ky] → ptrIs H p off y = some b → (Op.equal t kx ky).run P w = .ok b w ∧ (b = true → ky = kx ∧ Instr.sameBits 10000 ky kx = true)) (hm : RX ρ mv [mx]) {r : Option AV} (h : mapLookP H p off mv = some r) :
    (mx = .map none ∧ r = none) ∨ ∃ b arr clock o, mx = .map (some b) ∧ w.heap[b]? = some (.map arr clock) ∧ (Instr.findKey t kx arr.toList).run P w = .ok (valAt arr.toList 0 o) w ∧
      ((o = none ∧ r = none) ∨ ∃ j u e, o = some j ∧ r = some u ∧ arr.toList[j]? = some e ∧ RX ρ u [e.val]) := by
  unfold mapLookP at h
  split at h
  · cases h
    exact .inl ⟨by simpa [RX] using hm, rfl⟩
  · rename_i q
    split at h
    · rename_i es clock hp
      obtain ⟨L, hL, hme⟩ := hm.map_eq
      obtain ⟨arr, ha, hmr⟩ := hH.objs _ _ L hp (by simp) hL
      obtain ⟨o, ho, hres⟩ := findBy_firstAt (ρ := ρ) h
      exact .inr ⟨L.b, arr, clock, o, hme, ha, run_findKeyB hu hc hmr ho, hres hmr⟩
    · cases h
  · cases h

end Go.Dx
set_option linter.unusedSimpArgs false
set_option linter.unusedVariables false
set_option linter.unusedSectionVars false
namespace Go.Dx

section
variable {P : Program} {C : Ctx} {ρ : Ren} {ns : List (Option Tmp)} {ls : AV} {fr : Tr AV} {a : Act} {H H' : Heap} {w : World} {v : AV} {ci : CI} {o : Oper}

/-! Maps. -/
theorem HRel.mapAt {ng : Nat} (h : HRel P ng ρ H w) {p : Pos} {es : ME} {clock : Nat} {L : Loc} (hp : H.get p = some (.map es clock)) (hL : ρ p = some L) :
    ∃ arr, w.heap[L.b]? = some (.map arr clock) ∧ MR ρ es arr.toList := h.objs p _ L hp (by simp) hL

theorem run_getMap {b : Nat} {arr : Array MapEntry} {clock : Nat} (h : w.heap[b]? = some (.map arr clock)) : (getObj b).run P w = .ok (.map arr clock) w := by
  unfold getObj
  simp [Sem.run, h]

theorem run_setMap {b : Nat} {arr : Array MapEntry} {clock : Nat} (h : w.heap[b]? = some (.map arr clock)) (o : Obj) : (setObj b o).run P w = .ok () { w with heap := w.heap.setIfInBounds b o } := by
  unfold setObj
  simp [Sem.run, h]

theorem HRel.setMap {ng : Nat} (h : HRel P ng ρ H w) {p : Pos} {es es' : ME} {clock clock' : Nat} {L : Loc} (hp : H.get p = some (.map es clock)) (hL : ρ p = some L) {arr : Array MapEntry} (hm : MR ρ es' arr.toList) :
    HRel P ng ρ (H.put p (.map es' clock')) { w with heap := w.heap.setIfInBounds L.b (.map arr clock') } ∧ Step ρ H w ρ (H.put p (.map es' clock')) { w with heap := w.heap.setIfInBounds L.b (.map arr clock') } := by
  have hb := h.bound _ _ hL
  refine ⟨h.turn hp (by simp) hL (by simp) (fun b hb' => ?_) ⟨arr, ?_, hm⟩ (by simp), Step.turn h hp (by simp) (by simp) hL (by simp) (fun b hb' => ?_) rfl rfl rfl⟩
  · show (w.heap.setIfInBounds L.b _)[b]? = _
    rw [Array.getElem?_setIfInBounds_ne (by omega)]
  · show (w.heap.setIfInBounds L.b _)[L.b]? = _
    rw [Array.getElem?_setIfInBounds_self_of_lt hb]
  · show (w.heap.setIfInBounds L.b _)[b]? = _
    rw [Array.getElem?_setIfInBounds_ne (by omega)]

/-- Looking into a map: what is there, or that nothing is. -/
theorem mapLook_rel {ng : Nat} (hH : HRel P ng ρ H w) {t : TypeId} {kk : EK} (hd : KeyDesc P t kk) {key mv : AV} {kx mx : Value} (hk : RX ρ key [kx]) (hm : RX ρ mv [mx]) {r : Option AV} (h : mapLook H kk key mv = some r) :
    (mx = .map none ∧ r = none) ∨ ∃ b arr clock o, mx = .map (some b) ∧ w.heap[b]? = some (.map arr clock) ∧ (Instr.findKey t kx arr.toList).run P w = .ok (valAt arr.toList 0 o) w ∧
      ((o = none ∧ r = none) ∨ ∃ j u e, o = some j ∧ r = some u ∧ arr.toList[j]? = some e ∧ RX ρ u [e.val]) := by
  unfold mapLook at h
  split at h
  · cases h
    exact .inl ⟨by simpa [RX] using hm, rfl⟩
  · rename_i p
    split at h
    · rename_i es clock hp
      obtain ⟨L, hL, hme⟩ := hm.map_eq
      obtain ⟨arr, ha, hmr⟩ := hH.mapAt hp hL
      obtain ⟨o, ho, hres⟩ := find_firstAt (ρ := ρ) h
      exact .inr ⟨L.b, arr, clock, o, hme, ha, run_findKey hd hk hmr ho w, hres hmr⟩
    · cases h
  · cases h

/-- A look at one that is not known is a look at some integer. -/
theorem ints_find {n : Int} : ∀ {es : ME}, es.ints = true → ∃ r, es.find (.leaf .int) (.int 3 n) = some r := by
  intro es
  induction es with
  | nil => intro _; exact ⟨_, rfl⟩
  | cons k v b r ih =>
    intro h
    unfold ME.ints at h
    split at h
    · rename_i e; cases e
    · rename_i m _ _ _ e
      cases e
      obtain ⟨q, hq⟩ := ih h
      unfold ME.find
      simp only [eqKey, eqLeaf, if_true]
      cases hm : (n == m) with
      | true => exact ⟨_, rfl⟩
      | false => exact ⟨q, hq⟩
    · cases h
theorem symLook_spec {k : EK} {key mv : AV} {x : Value} (hx : RX ρ key [x]) (h : symLook H k key mv = true) : ∃ n r, RX ρ (.int 3 n) [x] ∧ okKey k (.int 3 n) = true ∧ mapLook H k (.int 3 n) mv = some r := by
  unfold symLook at h
  split at h
  · split at h
    · rename_i es _ hp
      obtain ⟨L, _, _, _, rfl⟩ := hx.sym_eq
      obtain ⟨r, hr⟩ := ints_find (n := (L.base : Int) - L.sz) h
      exact ⟨_, r, ⟨by decide, rfl⟩, by simp [okKey, eqKey, eqLeaf], by simp only [mapLook, hp]; exact hr⟩
    · cases h
  · cases h
theorem OpOk.any {ng : Nat} {s : Sem Next} {v : AV} (h : OpOk P ng ρ H w s v H') : OpOk P ng ρ H w s .any H' := by
  obtain ⟨ρ', w', x, nx, h1, h2, _, h4, h5⟩ := h
  exact ⟨ρ', w', x, nx, h1, h2, ⟨x, rfl⟩, h4, h5⟩

theorem ok_lookup (E : Env P C ρ ns ls fr a H w) {t : TypeId} {m x : Operand} {okc : Bool} (hci : opP P C ns (.lookup t m x okc) = some ci) (hev : ci.ev ls fr H = some (v, H')) :
    OpOk P C.ng ρ H w (do pure (.value (← Instr.lookup t (a.eval m) (a.eval x) okc))) v H' := by
  simp only [opP] at hci
  split at hci
  · rename_i k e hu
    split at hci
    · rename_i kk z m' x' hk hz hm hx
      cases hci
      have hd := keyP_desc hk
      obtain ⟨zv, hz1, hz2⟩ := run_zero hz w
      obtain ⟨kx, hkx, g1⟩ := bindO hev
      obtain ⟨mv, hmv, g2⟩ := bindO g1
      have core : ∀ kx r, RX ρ kx [a.eval x] → okKey kk kx = true → mapLook H kk kx mv = some r → OpOk P C.ng ρ H w (do pure (.value (← Instr.lookup t (a.eval m) (a.eval x) okc))) (lookRes z okc r) H := by
        intro kx r rk hok hr
        have hck := fun e => run_checkKey (w := w) hd rk hok e
        have pr : ∀ {u : AV} {q : Value} {b : Bool}, RX ρ u [q] → RX ρ (if okc then .tuple (.cons u (.cons (.bool b) .nil)) else u) [if okc then .tuple #[q, .bool b] else q] := by
          intro u q b hu
          cases okc
          · exact hu
          · exact ⟨_, rfl, rfl, _, _, rfl, hu, _, _, rfl, rfl, rfl⟩
        rcases mapLook_rel E.H hd rk (E.opd hm hmv) hr with ⟨hme, rfl⟩ | ⟨b, arr, clock, o, hme, ha, hf, ho⟩
        · refine .pureVal E.H (x := if okc then .tuple #[zv, .bool false] else zv) ?_ (pr (b := false) (hz2 ρ))
          rw [hme]
          unfold Instr.lookup
          rw [runB (run_underlying hu w)]
          simp only
          rw [runB (runP P _ w), runB (hck _)]
          have hf0 : (Instr.findKey k (a.eval x) (#[] : Array MapEntry).toList).run P w = .ok none w := run_findKey hd rk (m := .nil) (es := []) rfl rfl w
          rw [runB hf0]
          simp only
          rw [runB hz1]
          rfl
        · rcases ho with ⟨rfl, rfl⟩ | ⟨j, u, en, rfl, rfl, hen, hru⟩
          · refine .pureVal E.H (x := if okc then .tuple #[zv, .bool false] else zv) ?_ (pr (b := false) (hz2 ρ))
            rw [hme]
            unfold Instr.lookup
            rw [runB (run_underlying hu w)]
            simp only
            rw [runB (run_getMap ha)]
            simp only
            rw [runB (runP P _ w), runB (hck _), runB hf]
            simp only [valAt]
            rw [runB hz1]
            rfl
          · refine .pureVal E.H (x := if okc then .tuple #[en.val, .bool true] else en.val) ?_ (pr (b := true) hru)
            rw [hme]
            unfold Instr.lookup
            rw [runB (run_underlying hu w)]
            simp only
            rw [runB (run_getMap ha)]
            simp only
            rw [runB (runP P _ w), runB (hck _), runB hf]
            simp only [valAt, hen, Option.map_some]
            rfl
      split at g2
      · cases g2
      · rename_i hok
        simp only [Bool.not_eq_true, Bool.not_eq_false'] at hok
        split at g2
        · rename_i r hr
          cases g2
          exact core _ _ (E.opd hx hkx) hok hr
        · split at g2
          · rename_i hs
            cases g2
            simp only [Bool.and_eq_true, Bool.not_eq_true'] at hs
            obtain ⟨n, r, h1, h2, h3⟩ := symLook_spec (E.opd hx hkx) hs.2
            exact (core _ _ h1 h2 h3).any
          · cases g2
    · rename_i z m' x' hk hz hm hx
      split at hci
      · rename_i hptr
        cases hci
        obtain ⟨e', hue, _⟩ := ptrP_spec hptr
        obtain ⟨zv, hz1, hz2⟩ := run_zero hz w
        obtain ⟨kx, hkx, g1⟩ := bindO hev
        obtain ⟨mv, hmv, g2⟩ := bindO g1
        split at g2
        rotate_left
        · cases g2
        rename_i pp off
        split at g2
        rotate_left
        · cases g2
        · rename_i hok
          obtain ⟨r, hr, g3⟩ := bindO g2
          cases g3
          have rk := E.opd hx hkx
          have hck := fun b => run_checkPtr (w := w) hue b (a.eval x)
          have hcm := ptrIs_ok hptr E.H hok rk
          have pr : ∀ {u : AV} {q : Value} {b : Bool}, RX ρ u [q] → RX ρ (if okc then .tuple (.cons u (.cons (.bool b) .nil)) else u) [if okc then .tuple #[q, .bool b] else q] := by
            intro u q b hu
            cases okc
            · exact hu
            · exact ⟨_, rfl, rfl, _, _, rfl, hu, _, _, rfl, rfl, rfl⟩
          rcases mapLookP_rel E.H hue hcm (E.opd hm hmv) hr with ⟨hme, rfl⟩ | ⟨b, arr, clock, o, hme, ha, hf, ho⟩
          · refine .pureVal E.H (x := if okc then .tuple #[zv, .bool false] else zv) ?_ (pr (b := false) (hz2 ρ))
            rw [hme]
            unfold Instr.lookup
            rw [runB (run_underlying hu w)]
            simp only
            rw [runB (runP P _ w), runB (hck _)]
            have hf0 : (Instr.findKey k (a.eval x) (#[] : Array MapEntry).toList).run P w = .ok none w := run_findKeyB hue hcm (m := .nil) (es := []) rfl rfl
            rw [runB hf0]
            simp only
            rw [runB hz1]
            rfl
          · rcases ho with ⟨rfl, rfl⟩ | ⟨j, u, en, rfl, rfl, hen, hru⟩
            · refine .pureVal E.H (x := if okc then .tuple #[zv, .bool false] else zv) ?_ (pr (b := false) (hz2 ρ))
              rw [hme]
              unfold Instr.lookup
              rw [runB (run_underlying hu w)]
              simp only
              rw [runB (run_getMap ha)]
              simp only
              rw [runB (runP P _ w), runB (hck _), runB hf]
              simp only [valAt]
              rw [runB hz1]
              rfl
            · refine .pureVal E.H (x := if okc then .tuple #[en.val, .bool true] else en.val) ?_ (pr (b := true) hru)
              rw [hme]
              unfold Instr.lookup
              rw [runB (run_underlying hu w)]
              simp only
              rw [runB (run_getMap ha)]
              simp only
              rw [runB (runP P _ w), runB (hck _), runB hf]
              simp only [valAt, hen, Option.map_some]
              rfl
      · cases hci
    · cases hci
  · cases hci

theorem ok_update (E : Env P C ρ ns ls fr a H w) {t : TypeId} {m x y : Operand} (hci : opP P C ns (.mapUpdate t m x y) = some ci) (hev : ci.ev ls fr H = some (v, H')) :
    OpOk P C.ng ρ H w (do Instr.mapUpdate t (a.eval m) (a.eval x) (a.eval y); pure .skip) v H' := by
  simp only [opP] at hci
  split at hci
  · rename_i k e hu
    split at hci
    · rename_i kk m' x' y' hk hm hx hy
      cases hci
      have hd := keyP_desc hk
      obtain ⟨kx, hkx, g1⟩ := bindO hev
      obtain ⟨vv, hvv, g2⟩ := bindO g1
      obtain ⟨mv, hmv, g3⟩ := bindO g2
      split at g3
      · cases g3
      · rename_i hok
        simp only [Bool.not_eq_true, Bool.not_eq_false'] at hok
        obtain ⟨H1, h1, g4⟩ := bindO g3
        cases g4
        have rk := E.opd hx hkx
        have rv := E.opd hy hvv
        have rm := E.opd hm hmv
        have hck := fun e => run_checkKey (w := w) hd rk hok e
        unfold mapPut at h1
        split at h1
        · rename_i p
          split at h1
          · rename_i es clock hp
            simp only [Option.map_eq_some_iff] at h1
            obtain ⟨⟨es', fresh⟩, hput, rfl⟩ := h1
            obtain ⟨L, hL, hme⟩ := rm.map_eq
            obtain ⟨arr, ha, hmr⟩ := E.H.mapAt hp hL
            obtain ⟨o, ho, hres⟩ := put_firstAt (ρ := ρ) hput
            have hf := run_findKey (P := P) hd rk hmr ho w
            have hplace := (run_findAsking (P := P) (w := w) hd rk es arr.toList 0 o hmr ho).2
            rcases hres hmr rk rv with ⟨rfl, rfl, hm'⟩ | ⟨j, rfl, rfl, hm'⟩
            · have key := E.H.setMap (clock' := clock + 1) (es' := es') hp hL (arr := arr.push ⟨a.eval x, a.eval y, clock⟩) (by simpa using hm')
              refine .ofSkip ⟨_, ?_, key.1, key.2⟩
              rw [hme]
              unfold Instr.mapUpdate
              rw [runB (run_underlying hu w)]
              simp only
              rw [runB (run_getMap ha)]
              simp only
              rw [runB (hck _), runB hf]
              simp only [valAt]
              exact run_setMap ha _
            · obtain ⟨hjl, en, hen, hkey, hsame⟩ := hplace j rfl
              have key := E.H.setMap (clock' := clock) (es' := es') hp hL (arr := arr.modify j fun e => { e with key := a.eval x, val := a.eval y }) (by rw [Array.toList_modify]; exact hm')
              refine .ofSkip ⟨_, ?_, key.1, key.2⟩
              rw [hme]
              unfold Instr.mapUpdate
              rw [runB (run_underlying hu w)]
              simp only
              rw [runB (run_getMap ha)]
              simp only
              rw [runB (hck _), runB hf]
              have hen' : arr[j]? = some en := by simpa using hen
              simp only [valAt, hen, Option.map_some, Nat.zero_add, hen', Option.getD_some]
              have hkeep : (Instr.keyThatStays en.key (a.eval x)).run P w = .ok (a.eval x) w := by
                unfold Instr.keyThatStays
                rw [if_pos hsame]
                rfl
              rw [runB hkeep]
              exact run_setMap ha _
          · cases h1
        · cases h1
    · rename_i m' x' y' hk hm hx hy
      split at hci
      · rename_i hptr
        cases hci
        obtain ⟨e', hue, _⟩ := ptrP_spec hptr
        obtain ⟨kx, hkx, g1⟩ := bindO hev
        obtain ⟨vv, hvv, g2⟩ := bindO g1
        obtain ⟨mv, hmv, g3⟩ := bindO g2
        split at g3
        rotate_left
        · cases g3
        rename_i pp off
        split at g3
        rotate_left
        · cases g3
        · rename_i hok
          obtain ⟨H1, h1, g4⟩ := bindO g3
          cases g4
          have rk := E.opd hx hkx
          have rv := E.opd hy hvv
          have rm := E.opd hm hmv
          have hck := fun b => run_checkPtr (w := w) hue b (a.eval x)
          have hcm := ptrIs_ok hptr E.H hok rk
          unfold mapPutP at h1
          split at h1
          · rename_i p
            split at h1
            · rename_i es clock hp
              simp only [Option.map_eq_some_iff] at h1
              obtain ⟨⟨es', fresh⟩, hput, rfl⟩ := h1
              obtain ⟨L, hL, hme⟩ := rm.map_eq
              obtain ⟨arr, ha, hmr⟩ := E.H.mapAt hp hL
              obtain ⟨o, ho, hres⟩ := putBy_firstAt (ρ := ρ) hput
              have hf := run_findKeyB hue hcm hmr ho
              have hplace := (run_findAskingB hcm es arr.toList 0 o hmr ho).2
              rcases hres hmr rk rv with ⟨rfl, rfl, hm'⟩ | ⟨j, rfl, rfl, hm'⟩
              · have key := E.H.setMap (clock' := clock + 1) (es' := es') hp hL (arr := arr.push ⟨a.eval x, a.eval y, clock⟩) (by simpa using hm')
                refine .ofSkip ⟨_, ?_, key.1, key.2⟩
                rw [hme]
                unfold Instr.mapUpdate
                rw [runB (run_underlying hu w)]
                simp only
                rw [runB (run_getMap ha)]
                simp only
                rw [runB (hck _), runB hf]
                simp only [valAt]
                exact run_setMap ha _
              · obtain ⟨hjl, en, hen, hkey, hsame⟩ := hplace j rfl
                have key := E.H.setMap (clock' := clock) (es' := es') hp hL (arr := arr.modify j fun e => { e with key := a.eval x, val := a.eval y }) (by rw [Array.toList_modify]; exact hm')
                refine .ofSkip ⟨_, ?_, key.1, key.2⟩
                rw [hme]
                unfold Instr.mapUpdate
                rw [runB (run_underlying hu w)]
                simp only
                rw [runB (run_getMap ha)]
                simp only
                rw [runB (hck _), runB hf]
                have hen' : arr[j]? = some en := by simpa using hen
                simp only [valAt, hen, Option.map_some, Nat.zero_add, hen', Option.getD_some]
                have hkeep : (Instr.keyThatStays en.key (a.eval x)).run P w = .ok (a.eval x) w := by
                  unfold Instr.keyThatStays
                  rw [if_pos hsame]
                  rfl
                rw [runB hkeep]
                exact run_setMap ha _
            · cases h1
          · cases h1
      · cases hci
    · cases hci
  · cases hci

theorem ok_delete (E : Env P C ρ ns ls fr a H w) {t : TypeId} {m x : Operand} {k e : TypeId} {kk : EK} {m' x' : Opd} (hu : P.underlying t = some (.map k e)) (hk : keyP P k = some kk) (hm : Dx.opd C ns m = some m') (hx : Dx.opd C ns x = some x')
    (hev : (CI.delete kk m' x').ev ls fr H = some (v, H')) (ts : Array TypeId) (hts : ts[0]? = some t) (r : TypeId) :
    OpOk P C.ng ρ H w (do pure (.value (← Builtin.delete_ ts r #[a.eval m, a.eval x]))) v H' := by
  have hd := keyP_desc hk
  obtain ⟨kx, hkx, g1⟩ := bindO hev
  obtain ⟨mv, hmv, g2⟩ := bindO g1
  split at g2
  · cases g2
  · rename_i hok
    simp only [Bool.not_eq_true, Bool.not_eq_false'] at hok
    obtain ⟨H1, h1, g3⟩ := bindO g2
    cases g3
    have rk := E.opd hx hkx
    have rm := E.opd hm hmv
    have hck := fun e => run_checkKey (w := w) hd rk hok e
    have undefR : ∀ ρ', RX ρ' undefA [.tuple #[]] := fun ρ' => RX.undef ρ'
    unfold mapDel at h1
    split at h1
    · cases h1
      have hme : a.eval m = .map none := by simpa [RX] using rm
      refine .pureVal E.H ?_ (undefR ρ)
      rw [hme]
      unfold Builtin.delete_
      simp only [hts, List.getElem?_toArray, List.getElem?_cons_zero, List.getElem?_cons_succ]
      rw [runB (run_underlying hu w)]
      simp only
      rw [runB (hck _)]
      rfl
    · rename_i p
      split at h1
      · rename_i es clock hp
        simp only [Option.map_eq_some_iff] at h1
        obtain ⟨es', hdel, rfl⟩ := h1
        obtain ⟨L, hL, hme⟩ := rm.map_eq
        obtain ⟨arr, ha, hmr⟩ := E.H.mapAt hp hL
        obtain ⟨o, ho, hres⟩ := del_firstAt (ρ := ρ) hdel
        have hf := run_findKey (P := P) hd rk hmr ho w
        have hplace := (run_findAsking (P := P) (w := w) hd rk es arr.toList 0 o hmr ho).2
        rcases hres hmr with ⟨rfl, hm'⟩ | ⟨j, rfl, hm'⟩
        · have key := E.H.setMap (clock' := clock) (es' := es') hp hL (arr := arr) hm'
          refine .ofVal ⟨ρ, _, .tuple #[], ?_, undefR ρ, key.1, key.2⟩
          rw [hme]
          unfold Builtin.delete_
          simp only [hts, List.getElem?_toArray, List.getElem?_cons_zero, List.getElem?_cons_succ]
          rw [runB (run_underlying hu w)]
          simp only
          rw [runB (run_getMap ha)]
          simp only
          rw [runB (hck _), runB hf]
          simp only [valAt]
          rw [runB (run_setMap ha _)]
          rfl
        · obtain ⟨hjl, en, hen, _, _⟩ := hplace j rfl
          have key := E.H.setMap (clock' := clock) (es' := es') hp hL (arr := arr.eraseIdxIfInBounds j) (by
            have : (arr.eraseIdxIfInBounds j).toList = arr.toList.eraseIdx j := by
              have hj : j < arr.size := by simpa using hjl
              rw [Array.eraseIdxIfInBounds, dif_pos hj, Array.toList_eraseIdx]
            rw [this]; exact hm')
          refine .ofVal ⟨ρ, _, .tuple #[], ?_, undefR ρ, key.1, key.2⟩
          rw [hme]
          unfold Builtin.delete_
          simp only [hts, List.getElem?_toArray, List.getElem?_cons_zero, List.getElem?_cons_succ]
          rw [runB (run_underlying hu w)]
          simp only
          rw [runB (run_getMap ha)]
          simp only
          rw [runB (hck _), runB hf]
          simp only [valAt, hen, Option.map_some, Nat.zero_add]
          rw [runB (run_setMap ha _)]
          rfl
      · cases h1
    · cases h1

end
end Go.Dx
set_option linter.unusedSimpArgs false
set_option linter.unusedVariables false
set_option linter.unusedSectionVars false
namespace Go.Dx

section
variable {P : Program} {C : Ctx} {ρ : Ren} {ns : List (Option Tmp)} {ls : AV} {fr : Tr AV} {a : Act} {H H' : Heap} {w : World} {v : AV} {ci : CI} {o : Oper}

theorem run_sliceBound {k : IntKind} {i y : Nat} (code : BoundsCode) (h : i ≤ y) (w : World) : (Instr.sliceBound (.int k (i : Int)) y code).run P w = .ok i w := by
  unfold Instr.sliceBound
  rw [runB (run_asIntOf _ _ w)]
  simp only
  rw [if_pos (by omega), Int.toNat_natCast]
  rfl

/-- An optional bound. -/
def BR (x : Option Value) (n : Option Nat) : Prop :=
  match x, n with
  | none, none => True
  | some u, some i => ∃ k, u = .int k (i : Int)
  | _, _ => False

theorem optN_rel (E : Env P C ρ ns ls fr a H w) {x : Option Operand} {y : Option Opd} {n : Option Nat} (hx : Dx.opdO C ns x = some y) (hv : optN ls fr y = some n) : BR (x.map a.eval) n := by
  cases x with
  | none => simp [opdO] at hx; subst hx; simp [optN] at hv; subst hv; trivial
  | some u =>
    simp only [opdO, Option.map_eq_some_iff] at hx
    obtain ⟨y', hy, rfl⟩ := hx
    obtain ⟨z, hz, g1⟩ := bindO hv
    obtain ⟨i, hi, e⟩ := bindO g1
    cases e
    exact nat_eq (E.opd hy hz) hi

theorem run_sliceBounds {isS : Bool} {len cap : Nat} {lo hi mx : Option Value} {l h m : Option Nat} (hl : BR lo l) (hh : BR hi h) (hm : BR mx m) (hmh : mx.isSome = true → hi.isSome = true) {l' h' m' : Nat} (hb : sliceBounds len cap l h m = some (l', h', m')) (w : World) :
    (Instr.sliceBounds isS len cap lo hi mx).run P w = .ok (l', h', m') w := by
  unfold sliceBounds at hb
  simp only at hb
  split at hb
  · rename_i hc
    obtain ⟨c1, c2, c3⟩ := hc
    cases hb
    unfold Instr.sliceBounds
    have sm : (match mx with
      | some v => Instr.sliceBound v cap (if isS then .slice3Acap else .slice3Alen)
      | none => pure cap : Sem Nat).run P w = .ok (m.getD cap) w := by
      cases mx with
      | none => cases m with
        | none => rfl
        | some _ => exact hm.elim
      | some u => cases m with
        | none => exact hm.elim
        | some i => obtain ⟨k, rfl⟩ := hm; exact run_sliceBound _ c1 w
    have sh : (match hi, mx with
      | some v, some _ => Instr.sliceBound v (m.getD cap) .slice3B
      | some v, none => Instr.sliceBound v (m.getD cap) (if isS then .sliceAcap else .sliceAlen)
      | none, none => pure len
      | none, some _ => stuck "Slice: max without high" : Sem Nat).run P w = .ok (h.getD len) w := by
      cases hi with
      | none => cases h with
        | none => cases mx with
          | none => rfl
          | some _ => simp at hmh
        | some _ => exact hh.elim
      | some u => cases h with
        | none => exact hh.elim
        | some i =>
          obtain ⟨k, rfl⟩ := hh
          cases mx with
          | none => exact run_sliceBound _ c2 w
          | some _ => exact run_sliceBound _ c2 w
    have sl : (match lo with
      | some v => Instr.sliceBound v (h.getD len) (if mx.isSome then .slice3C else .sliceB)
      | none => pure 0 : Sem Nat).run P w = .ok (l.getD 0) w := by
      cases lo with
      | none => cases l with
        | none => rfl
        | some _ => exact hl.elim
      | some u => cases l with
        | none => exact hl.elim
        | some i => obtain ⟨k, rfl⟩ := hl; exact run_sliceBound _ c3 w
    cases mx with
    | none =>
      simp only at sm ⊢
      rw [runB sm]
      cases hi with
      | none =>
        simp only at sh ⊢
        rw [runB sh]
        cases lo with
        | none => simp only at sl ⊢; rw [runB sl]; rfl
        | some u => simp only at sl ⊢; rw [runB sl]; rfl
      | some u =>
        simp only at sh ⊢
        rw [runB sh]
        cases lo with
        | none => simp only at sl ⊢; rw [runB sl]; rfl
        | some u => simp only at sl ⊢; rw [runB sl]; rfl
    | some q =>
      simp only at sm ⊢
      rw [runB sm]
      cases hi with
      | none => simp at hmh
      | some u =>
        simp only at sh ⊢
        rw [runB sh]
        cases lo with
        | none => simp only at sl ⊢; rw [runB sl]; rfl
        | some u => simp only at sl ⊢; rw [runB sl]; rfl
  · cases hb

theorem sliceBounds_le {len cap : Nat} {l h m : Option Nat} {l' h' m' : Nat} (hb : sliceBounds len cap l h m = some (l', h', m')) : l' ≤ h' ∧ h' ≤ m' ∧ m' ≤ cap ∧ h' = h.getD len ∧ (m = none → m' = cap) := by
  unfold sliceBounds at hb
  simp only at hb
  split at hb
  · rename_i hc
    cases hb
    refine ⟨hc.2.2, hc.2.1, hc.1, rfl, fun e => by rw [e]; rfl⟩
  · cases hb

theorem ok_slice (E : Env P C ρ ns ls fr a H w) {t : TypeId} {x : Operand} {lo hi mx : Option Operand} (hci : opP P C ns (.slice t x lo hi mx) = some ci) (hev : ci.ev ls fr H = some (v, H')) :
    OpOk P C.ng ρ H w (do pure (.value (← Instr.sliceAt t (a.eval x) (lo.map a.eval) (hi.map a.eval) (mx.map a.eval)))) v H' := by
  simp only [opP] at hci
  split at hci
  · cases hci
  rename_i hmhi
  have hmh : (mx.map a.eval).isSome = true → (hi.map a.eval).isSome = true := by
    intro h
    cases mx <;> cases hi <;> simp_all
  split at hci
  · rename_i x' l' h' m' hx hl hh hm
    split at hci
    · rename_i hu
      split at hci
      · cases hci
      · rename_i hmx
        cases hci
        have hmn : mx = none := by cases mx <;> simp_all
        subst hmn
        obtain ⟨u, hu1, g1⟩ := bindO hev
        split at g1
        · rename_i len n
          obtain ⟨lv, hlv, g2⟩ := bindO g1
          obtain ⟨hv, hhv, g3⟩ := bindO g2
          obtain ⟨⟨l, h, m⟩, hb, g4⟩ := bindO g3
          cases g4
          obtain ⟨hlt, hxe⟩ := (E.opd hx hu1).str_eq
          have hbr := run_sliceBounds (P := P) (isS := false) (optN_rel E hl hlv) (optN_rel E hh hhv) (mx := none) (m := none) trivial (by simp) hb w
          have hle := sliceBounds_le hb
          refine .pureVal E.H (x := .string (textOf (h - l) (n / 256 ^ l % 256 ^ (h - l)))) ?_ ⟨Nat.mod_lt _ (Nat.pow_pos (by omega)), rfl⟩
          rw [hxe]
          unfold Instr.sliceAt
          rw [runB (run_underlying hu w)]
          simp only [Option.map_none]
          unfold Instr.slice
          rw [runB (run_underlying hu w)]
          simp only [Option.isSome_none, Bool.false_eq_true, if_false]
          rw [textOf_size, runB hbr]
          simp only
          rw [textOf_extract _ _ _ _ hle.1 (by omega)]
          rfl
        · cases g1
    · rename_i e hu
      split at hci
      · rename_i n hn
        split at hci
        · cases hci
        · rename_i hn0
          cases hci
          obtain ⟨lv, hlv, g1⟩ := bindO hev
          obtain ⟨hv, hhv, g2⟩ := bindO g1
          obtain ⟨mv, hmv, g3⟩ := bindO g2
          obtain ⟨u, hu1, g4⟩ := bindO g3
          have b1 := optN_rel E hl hlv
          have b2 := optN_rel E hh hhv
          have b3 := optN_rel E hm hmv
          have go : ∀ (ad : Option Addr) (len cap : Nat) (l h m : Nat), a.eval x = .slice ad len cap → sliceBounds len cap lv hv mv = some (l, h, m) →
              (Instr.sliceAt t (a.eval x) (lo.map a.eval) (hi.map a.eval) (mx.map a.eval)).run P w = .ok (.slice (if m = l then ad else ad.map (·.add (l * n))) (h - l) (m - l)) w := by
            intro ad len cap l h m hxe hb
            have hbr := run_sliceBounds (P := P) (isS := true) b1 b2 b3 hmh hb w
            rw [hxe]
            unfold Instr.sliceAt
            rw [runB (run_underlying hu w)]
            simp only
            unfold Instr.slice
            rw [runB (run_underlying hu w)]
            simp only
            rw [runB hbr]
            simp only
            rw [runB (run_sizeOf hn w)]
            rfl
          split at g4
          · obtain ⟨⟨l, h, m⟩, hb, g5⟩ := bindO g4
            cases g5
            have hxe : a.eval x = .slice none 0 0 := by have := E.opd hx hu1; simpa [RX] using this
            have hle := sliceBounds_le hb
            have hr := go none 0 0 l h m hxe hb
            refine .pureVal E.H (x := .slice none 0 0) ?_ rfl
            rw [hr]
            have h1 : h - l = 0 := by omega
            have h2 : m - l = 0 := by omega
            rw [h1, h2]
            simp
          · rename_i p off len cap
            obtain ⟨⟨l, h, m⟩, hb, g5⟩ := bindO g4
            cases g5
            obtain ⟨L, hL, _, hxe⟩ := (E.opd hx hu1).slice_eq
            have hle := sliceBounds_le hb
            have hr := go _ len cap l h m hxe hb
            refine .pureVal E.H hr ?_
            by_cases hml : m = l
            · rw [if_pos hml, if_pos hml, show h - l = 0 by omega, show m - l = 0 by omega]
              exact ⟨L, hL, Nat.le_refl _, rfl⟩
            · rw [if_neg hml, if_neg hml]
              exact ⟨L, hL, by omega, by simp only [Option.map_some, addr_add, Nat.add_assoc]⟩
          · rename_i p off len s
            split at g4
            · cases g4
            · rename_i hs
              simp only [ne_eq, Decidable.not_not] at hs
              subst hs
              split at g4
              · rename_i t' N hp
                obtain ⟨L, hL, hxe⟩ := E.opd hx hu1
                obtain ⟨c, e', fr', h1, h2, h3, _, _, _⟩ := E.H.row hp hL
                simp only at g4
                -- the capacity that is, at least
                have hcap : ∃ ad cap', a.eval x = .slice (some ad) len cap' ∧ (N - off) / s ≤ cap' ∧ ((ad = ⟨L.b, L.base + off, none⟩ ∧ L.base + off + cap' * s = L.sz) ∨ (len = 0 ∧ cap' = 0 ∧ L.base + off = L.sz ∧ ad.block = L.b ∧ ad.spot = none)) := by
                  rcases hxe with ⟨cap', hc1, hc2, hxe⟩ | ⟨h0, hc1, o, hxe⟩
                  · refine ⟨_, cap', by simpa using hxe, ?_, .inl ⟨rfl, hc1⟩⟩
                    apply Nat.div_le_of_le_mul
                    rw [Nat.mul_comm]
                    omega
                  · subst h0
                    refine ⟨_, 0, by simpa using hxe, ?_, .inr ⟨rfl, rfl, hc1, rfl, rfl⟩⟩
                    have : N - off = 0 := by omega
                    rw [this]
                    simp
                obtain ⟨ad, cap', hxe, hcc, hal⟩ := hcap
                split at g4
                · rename_i mq
                  obtain ⟨⟨l, h, m⟩, hb, g5⟩ := bindO g4
                  simp only at g5
                  split at g5
                  · rename_i hml
                    split at g5
                    · cases g5
                    · rename_i hlen0
                      cases g5
                      have hle := sliceBounds_le hb
                      have hb' : sliceBounds len cap' lv hv (some mq) = some (l, h, m) := by
                        unfold sliceBounds at hb ⊢
                        simp only [Option.getD_some] at hb ⊢
                        split at hb
                        · rename_i hc; rw [if_pos ⟨Nat.le_trans hc.1 hcc, hc.2⟩]; exact hb
                        · cases hb
                      have hr := go _ len cap' l h m hxe hb'
                      refine .pureVal E.H hr ?_
                      rw [if_pos hml, show h - l = 0 by omega, show m - l = 0 by omega]
                      rcases hal with ⟨rfl, _⟩ | ⟨h0, _⟩
                      · exact ⟨L, hL, Nat.le_refl _, rfl⟩
                      · exact absurd h0 hlen0
                  · rename_i hml
                    cases g5
                    have hle := sliceBounds_le hb
                    have hb' : sliceBounds len cap' lv hv (some mq) = some (l, h, m) := by
                      unfold sliceBounds at hb ⊢
                      simp only [Option.getD_some] at hb ⊢
                      split at hb
                      · rename_i hc; rw [if_pos ⟨Nat.le_trans hc.1 hcc, hc.2⟩]; exact hb
                      · cases hb
                    have hr := go _ len cap' l h m hxe hb'
                    refine .pureVal E.H hr ?_
                    rw [if_neg hml]
                    rcases hal with ⟨rfl, _⟩ | ⟨h0, hc0, hz, _⟩
                    · exact ⟨L, hL, by omega, by simp only [Option.map_some, addr_add, Nat.add_assoc]⟩
                    · have : (N - off) / s = 0 := by omega
                      omega
                · obtain ⟨⟨l, h, m⟩, hb, g5⟩ := bindO g4
                  cases g5
                  have hle := sliceBounds_le hb
                  have hb' : sliceBounds len cap' lv hv none = some (l, h, cap') := by
                    unfold sliceBounds at hb ⊢
                    simp only [Option.getD_none] at hb ⊢
                    split at hb
                    · rename_i hc
                      cases hb
                      rw [if_pos ⟨Nat.le_refl _, Nat.le_trans hc.2.1 hcc, hc.2.2⟩]
                    · cases hb
                  have hr := go _ len cap' l h cap' hxe hb'
                  have hle' := sliceBounds_le hb'
                  simp only
                  refine .pureVal E.H hr ?_
                  rcases hal with ⟨rfl, hz⟩ | ⟨h0, hc0, hz, hb1, hb2⟩
                  · by_cases hcl : cap' = l
                    · rw [if_pos hcl, show h - l = 0 by omega, show cap' - l = 0 by omega]
                      refine ⟨L, hL, .inr ⟨rfl, ?_, _, rfl⟩⟩
                      rw [← Nat.add_assoc, ← hcl]
                      exact hz
                    · rw [if_neg hcl]
                      refine ⟨L, hL, .inl ⟨cap' - l, ?_, (by show h - l ≤ cap' - l; omega), by simp only [Option.map_some, addr_add, Nat.add_assoc]⟩⟩
                      have h5 : cap' * s = l * s + (cap' - l) * s := by rw [← Nat.add_mul]; congr 1; omega
                      omega
                  · have hl0 : l = 0 := by omega
                    have hh0 : h = 0 := by omega
                    subst hl0 hh0 hc0
                    simp only [if_true, Nat.sub_self, Nat.zero_mul, Nat.add_zero]
                    obtain ⟨ab, ao, asp⟩ := ad
                    simp only at hb1 hb2
                    subst hb1 hb2
                    exact ⟨L, hL, .inr ⟨rfl, hz, ao, rfl⟩⟩
              · cases g4
          · cases g4
      · cases hci
    · rename_i k e hu
      split at hci
      · rename_i n hn
        cases hci
        obtain ⟨lv, hlv, g1⟩ := bindO hev
        obtain ⟨hv, hhv, g2⟩ := bindO g1
        obtain ⟨mv, hmv, g3⟩ := bindO g2
        obtain ⟨u, hu1, g4⟩ := bindO g3
        have b1 := optN_rel E hl hlv
        have b2 := optN_rel E hh hhv
        have b3 := optN_rel E hm hmv
        split at g4
        · rename_i p off
          obtain ⟨⟨l, h, m⟩, hb, g5⟩ := bindO g4
          cases g5
          obtain ⟨L, hL, hxe⟩ := (E.opd hx hu1).ptr_eq
          have hle := sliceBounds_le hb
          have hbr := run_sliceBounds (P := P) (isS := false) b1 b2 b3 hmh hb w
          have hr : (Instr.sliceAt t (a.eval x) (lo.map a.eval) (hi.map a.eval) (mx.map a.eval)).run P w = .ok (.slice (some (if m = l then ⟨L.b, L.base + off, none⟩ else ⟨L.b, L.base + off + l * n, none⟩)) (h - l) (m - l)) w := by
            rw [hxe]
            unfold Instr.sliceAt
            rw [runB (run_underlying hu w)]
            simp only
            rw [runB (run_sureAddr _ w), runB hbr]
            simp only
            rw [runB (run_sizeOf hn w), addr_add]
            rfl
          refine .pureVal E.H hr ?_
          by_cases hml : m = l
          · rw [if_pos hml, if_pos hml, show h - l = 0 by omega, show m - l = 0 by omega]
            exact ⟨L, hL, Nat.le_refl _, rfl⟩
          · rw [if_neg hml, if_neg hml]
            exact ⟨L, hL, by omega, by simp only [Nat.add_assoc]⟩
        · cases g4
      · cases hci
    · cases hci
  · cases hci

end
end Go.Dx
set_option linter.unusedSimpArgs false
set_option linter.unusedVariables false
set_option linter.unusedSectionVars false
namespace Go.Dx

section
variable {P : Program} {C : Ctx} {ρ : Ren} {ns : List (Option Tmp)} {ls : AV} {fr : Tr AV} {a : Act} {H H' : Heap} {w : World} {v : AV} {ci : CI} {o : Oper}

/-! Bytes. -/
theorem bytesFrom_rel (ρ : Ren) (m : Nat) : ∀ (n i : Nat), RX ρ (bytesFrom m i n) ((bytesL m i n).map fun b => .int .u8 (b.toNat : Int)) ∧ (bytesFrom m i n).isList = true ∧ (bytesFrom m i n).len = n := by
  intro n
  induction n with
  | zero => intro i; exact ⟨rfl, rfl, rfl⟩
  | succ n ih =>
    intro i
    obtain ⟨h1, h2, h3⟩ := ih (i + 1)
    refine ⟨⟨_, _, rfl, ⟨by decide, ?_⟩, h1⟩, h2, by simp [bytesFrom, AV.len, h3]⟩
    show [Value.int .u8 ((UInt8.ofNat (byteAt m i)).toNat : Int)] = _
    rw [UInt8.toNat_ofNat', Nat.mod_eq_of_lt (byteAt_lt m i)]
    rfl

theorem run_choose {q : Question} (hq : q.forced = false) (w : World) : (choose q).run P w = .ok (q.cut (w.tape w.drawn q)) { w with drawn := w.drawn + 1 } := by
  unfold choose
  simp [Sem.run, hq]

theorem push_modify {h : Array Obj} {x : Obj} {f : Obj → Obj} : (h.push x).modify h.size f = h.push (f x) := by
  apply Array.ext_getElem?
  intro i
  rw [Array.getElem?_modify, Array.getElem?_push, Array.getElem?_push]
  by_cases hi : i = h.size
  · subst hi; simp
  · rw [if_neg (by omega), if_neg (by omega), if_neg (by omega)]

theorem toBytes_ok {ng : Nat} (hH : HRel P ng ρ H w) {l n : Nat} {p : Pos} (hr : H.row (bytesFrom n 0 l) true = some (p, H')) (e : TypeId) :
    ∃ ρ' w' cap, (Conv.stringToBytes e (textOf l n)).run P w = .ok (.slice (some ⟨w.heap.size, 0, none⟩) l cap) w' ∧ RX ρ' (.oslice p 0 l 1) [.slice (some ⟨w.heap.size, 0, none⟩) l cap] ∧ HRel P ng ρ' H' w' ∧ Step ρ H w ρ' H' w' := by
  have hcut : l ≤ (Question.appendCap (textOf l n).size 0 e).cut (w.tape w.drawn (.appendCap (textOf l n).size 0 e)) := by
    rw [textOf_size]
    show l ≤ l + _
    omega
  generalize hcap : (Question.appendCap (textOf l n).size 0 e).cut (w.tape w.drawn (.appendCap (textOf l n).size 0 e)) = cap at hcut
  let el : Array Value := (textOf l n).data.map fun b => .int .u8 (b.toNat : Int)
  have hel : el.toList = (bytesL n 0 l).map fun b => .int .u8 (b.toNat : Int) := by
    show ((textOf l n).data.map _).toList = _
    rw [Array.toList_map, textOf_data]
  let c : Array Value := el ++ Array.replicate (cap - (textOf l n).size) (.int .u8 0)
  have hels : el.size = l := by
    have := congrArg List.length hel
    simpa [bytesL_length] using this
  have hcs : c.size = cap := by
    show (el ++ Array.replicate _ _).size = _
    rw [Array.size_append, Array.size_replicate, hels, textOf_size]
    omega
  obtain ⟨b1, b2, b3⟩ := bytesFrom_rel ρ n l 0
  let w1 : World := { w with drawn := w.drawn + 1 }
  let w2 : World := pushed w1 (.cells c e)
  let w3 : World := w2.freeze ⟨w.heap.size, c.size, none⟩ 1
  have hw3 : w3.heap = w.heap.push (.cells c e (c.size, c.size + 1)) := by
    show (w2.freeze ⟨w.heap.size, c.size, none⟩ 1).heap = _
    unfold World.freeze
    rw [if_neg (by omega)]
    have h2 : w2.heap = w.heap.push (.cells c e) := rfl
    simp only [h2, push_modify]
    rfl
  obtain ⟨ep, q1, q2, _, _⟩ := hH.newRow (op := true) (c := c) (elem := e) (fr := (c.size, c.size + 1)) (w' := w3) hr hw3 rfl rfl rfl (hel ▸ b1)
    (fun j hj => by
      have hj' : j < el.size := by simpa using hj
      show (el ++ _)[j]? = _
      rw [Array.getElem?_append_left hj', Array.getElem?_toList])
    (by simp [hels, hcs, hcut]) (by simp) (fun i hi => by simp; omega)
  subst ep
  refine ⟨_, w3, cap, ?_, ?_, q1, q2⟩
  · unfold Conv.stringToBytes
    rw [runB (run_choose rfl w), hcap]
    show (newRow e c >>= _).run P w1 = _
    rw [runB (run_newRow (w := w1))]
    have hsh : (shape w.heap.size).run P w2 = .ok (some (e, c.size)) w2 := by
      show Result.ok (w2.shape? w.heap.size) w2 = _
      unfold World.shape?
      have : w2.heap[w.heap.size]? = some (.cells c e) := Array.getElem?_push_size
      rw [this]
    have hmk : (markStringish ⟨w.heap.size, 0, none⟩).run P w2 = .ok () w3 := by
      unfold markStringish
      rw [runB hsh]
      rfl
    show (markStringish ⟨w.heap.size, 0, none⟩ >>= _).run P w2 = _
    rw [runB hmk, textOf_size]
    rfl
  · exact ⟨⟨w.heap.size, 0, c.size⟩, by simp [Ren.put], .inl ⟨cap, by simp [hcs], hcut, by simp⟩⟩

theorem numOf_lt : ∀ {cs : AV} {N : Nat}, numOf cs = some N → N < 256 ^ cs.len := by
  intro cs
  induction cs with
  | nil => intro N h; simp [numOf] at h; subst h; simp [AV.len]
  | cons a r _ ih =>
    intro N h
    unfold numOf at h
    split at h
    · rename_i e; cases e
    · rename_i b r' e
      cases e
      split at h
      · simp only [Option.map_eq_some_iff] at h
        obtain ⟨m, hm, rfl⟩ := h
        have := ih hm
        simp only [AV.len, Nat.pow_succ]
        omega
      · cases h
    · cases h
  | _ => intro N h; simp [numOf] at h

theorem run_bytesLoop : ∀ (cs : AV) (xs : List Value) (N : Nat) (s : ByteArray) (w : World), RX ρ cs xs → numOf cs = some N →
    (forIn xs s (fun c s => match c with
      | .int .u8 n => pure (ForInStep.yield (s.push (UInt8.ofNat n.toNat)))
      | _ => do
        stuck "bytesToString: byte expected"
        pure (ForInStep.yield s)) : Sem ByteArray).run P w = .ok ⟨(s.data.toList ++ bytesL N 0 xs.length).toArray⟩ w := by
  intro cs
  induction cs with
  | nil => intro xs N s w hr h; cases hr; simp [numOf] at h; subst h; simp [bytesL]
  | cons a r _ ih =>
    intro xs N s w hr h
    unfold numOf at h
    split at h
    · rename_i e; cases e
    · rename_i b r' e
      cases e
      split at h
      · rename_i hb
        simp only [Option.map_eq_some_iff] at h
        obtain ⟨m, hm, rfl⟩ := h
        obtain ⟨x, xs', rfl, ha, hr'⟩ := hr
        have hx := ha.int_eq.2
        rw [hx, List.forIn_cons]
        show ((pure (ForInStep.yield (s.push (UInt8.ofNat (Int.ofNat b).toNat))) : Sem (ForInStep ByteArray)) >>= _).run P w = _
        rw [runB (runP P _ w)]
        simp only
        rw [ih xs' m _ w hr' hm]
        congr 1
        have : bytesL (b + 256 * m) 0 (xs'.length + 1) = UInt8.ofNat b :: bytesL m 0 xs'.length := by
          show UInt8.ofNat (byteAt (b + 256 * m) 0) :: bytesL (b + 256 * m) (0 + 1) xs'.length = _
          rw [byteAt_zero _ _ hb, bytesL_cons _ _ hb]
        simp only [List.length_cons, this]
        simp [ByteArray.push]
      · cases h
    · cases h
  | _ => intro xs N s w hr h; simp [numOf] at h

theorem firstCells_rel {ng : Nat} (hH : HRel P ng ρ H w) {size n : Nat} {u cs : AV} {x : Value} (hu : RX ρ u [x]) (h : firstCells H size n u = some cs) (hn : ∃ m, lenOf u = some m ∧ n ≤ m) :
    ∃ xs : List Value, (∀ w' : World, w'.heap = w.heap → (Builtin.firstCells size n x).run P w' = .ok xs.toArray w') ∧ RX ρ cs xs ∧ cs.isList = true ∧ cs.len = n * size ∧ (∀ j u, cs.nth j = some u → isCell u = true) := by
  obtain ⟨m, hm, hnm⟩ := hn
  unfold firstCells at h
  split at h
  · cases h
    have hx : x = .slice none 0 0 := by simpa [RX] using hu
    subst hx
    simp [lenOf] at hm
    subst hm
    have : n = 0 := by omega
    subst this
    exact ⟨[], fun _ _ => rfl, rfl, rfl, by simp [AV.len], fun j u hu => by simp [AV.nth] at hu⟩
  · rename_i p off len cap
    obtain ⟨L, hL, _, rfl⟩ := hu.slice_eq
    split at h
    · rename_i h0
      cases h
      refine ⟨[], fun w' _ => ?_, rfl, rfl, by rw [h0]; rfl, fun j u hu => by simp [AV.nth] at hu⟩
      unfold Builtin.firstCells
      rw [h0]
      rfl
    · obtain ⟨xs, r1, r2, r3, r4, r5⟩ := hH.cells (P := P) h hL
      exact ⟨xs, r1, r2, r3, r4, r5⟩
  · rename_i p off len s
    have hu' := hu
    obtain ⟨L, hL, hx⟩ := hu
    split at h
    · rename_i h0
      cases h
      refine ⟨[], fun w' _ => ?_, rfl, rfl, by rw [h0]; rfl, fun j u hu => by simp [AV.nth] at hu⟩
      rcases hx with ⟨_, _, _, e⟩ | ⟨_, _, _, e⟩ <;> cases e <;> (unfold Builtin.firstCells; rw [h0]; rfl)
    · rename_i h0
      rcases hx with ⟨cap, _, _, e⟩ | ⟨hl, _⟩
      · cases e
        obtain ⟨xs, r1, r2, r3, r4, r5⟩ := hH.cells (P := P) h hL
        exact ⟨xs, r1, r2, r3, r4, r5⟩
      · simp [lenOf] at hm
        subst hm hl
        have : n = 0 := by omega
        subst this
        simp at h0
  · cases h

theorem lenOf_rel {u : AV} {x : Value} {n : Nat} (hu : RX ρ u [x]) (h : lenOf u = some n) : (Builtin.lenOf x).run P w = .ok n w := by
  cases u <;> simp [lenOf] at h
  case str l m => subst h; obtain ⟨_, rfl⟩ := hu.str_eq; show Result.ok (textOf l m).size w = _; rw [textOf_size]
  case slice p o l c => subst h; obtain ⟨_, _, _, rfl⟩ := hu.slice_eq; rfl
  case oslice p o l s =>
    subst h
    obtain ⟨L, _, hx⟩ := hu
    rcases hx with ⟨_, _, _, e⟩ | ⟨h0, _, _, e⟩ <;> cases e
    · rfl
    · subst h0; rfl
  case nilslice => subst h; have hx : x = .slice none 0 0 := by simpa [RX] using hu
                   subst hx; rfl

theorem bytesToString_ok {ng : Nat} (hH : HRel P ng ρ H w) {u cs : AV} {x : Value} {l N : Nat} (hu : RX ρ u [x]) (hl : lenOf u = some l) (hc : firstCells H 1 l u = some cs) (hN : numOf cs = some N) :
    (∃ ad n c, x = .slice ad n c) ∧ (Conv.bytesToString x).run P w = .ok (.string (textOf l N)) w ∧ N < 256 ^ l := by
  obtain ⟨xs, r1, r2, r3, r4, _⟩ := firstCells_rel (P := P) hH hu hc ⟨l, hl, Nat.le_refl _⟩
  have hlen := r2.len r3
  rw [r4, Nat.mul_one] at hlen
  have hlt := numOf_lt hN
  rw [r4, Nat.mul_one] at hlt
  have loop : ∀ ad : Addr, (Builtin.firstCells 1 l x).run P w = (loadCells ad l).run P w → (Conv.bytesToString (.slice (some ad) l 0)).run P w = .ok (.string (textOf l N)) w := by
    intro ad he
    rw [r1 w rfl] at he
    unfold Conv.bytesToString
    simp only
    rw [runB he.symm]
    rw [← Array.forIn_toList, show xs.toArray.toList = xs from rfl]
    refine Eq.trans (runB (f := fun s => (pure (.string s) : Sem Value)) (run_bytesLoop (P := P) cs xs N ByteArray.empty w r2 hN)) ?_
    rw [← hlen]
    rfl
  have capless : ∀ (ad : Addr) (n c : Nat), Conv.bytesToString (.slice (some ad) n c) = Conv.bytesToString (.slice (some ad) n 0) := fun _ _ _ => rfl
  cases u <;> simp [lenOf] at hl
  case str a b => simp [firstCells] at hc
  case nilslice =>
    subst hl
    have hx : x = .slice none 0 0 := by simpa [RX] using hu
    subst hx
    simp [firstCells] at hc
    subst hc
    simp [numOf] at hN
    subst hN
    exact ⟨⟨_, _, _, rfl⟩, rfl, by simp⟩
  case slice p o n c =>
    subst hl
    obtain ⟨L, _, _, rfl⟩ := hu.slice_eq
    refine ⟨⟨_, _, _, rfl⟩, ?_, hlt⟩
    rw [capless]
    apply loop
    show (loadCells _ (n * 1)).run P w = _
    rw [Nat.mul_one]
  case oslice p o n s =>
    subst hl
    obtain ⟨L, _, hx⟩ := hu
    rcases hx with ⟨c, _, _, e⟩ | ⟨h0, _, _, e⟩
    · cases e
      refine ⟨⟨_, _, _, rfl⟩, ?_, hlt⟩
      rw [capless]
      apply loop
      show (loadCells _ (n * 1)).run P w = _
      rw [Nat.mul_one]
    · cases e
      subst h0
      refine ⟨⟨_, _, _, rfl⟩, ?_, hlt⟩
      apply loop
      show (loadCells _ (0 * 1)).run P w = _
      rw [Nat.mul_one]

theorem ok_convert (E : Env P C ρ ns ls fr a H w) {s d : TypeId} {x : Operand} (hci : opP P C ns (.convert s d x) = some ci) (hev : ci.ev ls fr H = some (v, H')) :
    OpOk P C.ng ρ H w (do pure (.value (← convert s d (a.eval x)))) v H' := by
  simp only [opP] at hci
  split at hci
  · rename_i k0 k y hs hd hy
    cases hci
    obtain ⟨u, hu1, g1⟩ := bindO hev
    obtain ⟨⟨c, n⟩, hj, e⟩ := bindO g1
    cases e
    have e1 := asInt_eq hj
    subst e1
    have hx := (E.opd hy hu1).int_eq.2
    refine .pureVal E.H (x := .int k (k.wrap n)) ?_ ⟨code_lt k, by rw [kind_code]⟩
    rw [hx]
    unfold convert
    rw [runB (run_underlying hs w), runB (run_underlying hd w)]
    rfl
  · rename_i y hs hd hy
    cases hci
    obtain ⟨u, hu1, g1⟩ := bindO hev
    split at g1
    · rename_i l n
      cases g1
      have hr := E.opd hy hu1
      obtain ⟨_, hx⟩ := hr.str_eq
      refine .pureVal E.H ?_ hr
      rw [hx]
      unfold convert
      rw [runB (run_underlying hs w), runB (run_underlying hd w)]
      rfl
    · cases g1
  · rename_i e y hs hd hy
    split at hci
    · rename_i hbyte
      cases hci
      have hbe : P.underlying e = some (.int .u8) := by
        revert hbyte
        cases P.underlying e with
        | none => simp
        | some d' => cases d' <;> simp <;> (rename_i k; cases k <;> simp)
      obtain ⟨u, hu1, g1⟩ := bindO hev
      split at g1
      · rename_i l n
        obtain ⟨⟨p, H1⟩, hp, e1⟩ := bindO g1
        cases e1
        obtain ⟨_, hx⟩ := (E.opd hy hu1).str_eq
        obtain ⟨ρ', w', cap, r1, r2, r3, r4⟩ := toBytes_ok (P := P) E.H hp e
        refine .ofVal ⟨ρ', w', _, ?_, r2, r3, r4⟩
        rw [hx]
        unfold convert
        rw [runB (run_underlying hs w), runB (run_underlying hd w)]
        simp only
        rw [runB (run_underlying hbe w)]
        exact r1
      · cases g1
    · cases hci
  · rename_i e y hs hd hy
    split at hci
    · rename_i hbyte
      cases hci
      have hbe : P.underlying e = some (.int .u8) := by
        revert hbyte
        cases P.underlying e with
        | none => simp
        | some d' => cases d' <;> simp <;> (rename_i k; cases k <;> simp)
      obtain ⟨u, hu1, g1⟩ := bindO hev
      obtain ⟨l, hl, g2⟩ := bindO g1
      obtain ⟨cs, hcs, g3⟩ := bindO g2
      obtain ⟨N, hN, g4⟩ := bindO g3
      cases g4
      obtain ⟨⟨ad, n, c, hx⟩, r1, r2⟩ := bytesToString_ok (P := P) E.H (E.opd hy hu1) hl hcs hN
      refine .pureVal E.H (x := .string (textOf l N)) ?_ ⟨r2, rfl⟩
      rw [hx] at r1 ⊢
      unfold convert
      rw [runB (run_underlying hs w), runB (run_underlying hd w)]
      simp only
      rw [runB (run_underlying hbe w)]
      exact r1
    · cases hci
  · cases hci

end
end Go.Dx
