/-
  Operations, seventh part: converting, lengths, new slices, least and greatest.
-/
import Derived.Test.YtnlbchnlbpaflaaGreatDoorDxOpF
set_option linter.unusedSimpArgs false
set_option linter.unusedVariables false
set_option linter.unusedSectionVars false
namespace Go.Dx

section
variable {P : Program} {C : Ctx} {ρ : Ren} {ns : List (Option Tmp)} {ls : AV} {fr : Tr AV} {a : Act} {H H' : Heap} {w : World} {v : AV} {ci : CI} {o : Oper}

/-! Bytes. -/
theorem bytesFrom_rel (ρ : Ren) (m : Nat) : ∀ (n i : Nat), RX ρ (bytesFrom m i n) ((bytesL m i n).map fun b => .int .u8 (b.toNat : Int)) ∧ (bytesFrom m i n).isList = true ∧ (bytesFrom m i n).len = n := by
  intro n
  induction n with
  | zero => intro i; exact ⟨rfl, rfl, rfl⟩
  | succ n ih =>
    intro i
    obtain ⟨h1, h2, h3⟩ := ih (i + 1)
    refine ⟨⟨_, _, rfl, ⟨by decide, ?_⟩, h1⟩, h2, by simp [bytesFrom, AV.len, h3]⟩
    show [Value.int .u8 ((UInt8.ofNat (byteAt m i)).toNat : Int)] = _
    rw [UInt8.toNat_ofNat', Nat.mod_eq_of_lt (byteAt_lt m i)]
    rfl

theorem run_choose {q : Question} (hq : q.forced = false) (w : World) : (choose q).run P w = .ok (q.cut (w.tape w.drawn q)) { w with drawn := w.drawn + 1 } := by
  unfold choose
  simp [Sem.run, hq]

theorem push_modify {h : Array Obj} {x : Obj} {f : Obj → Obj} : (h.push x).modify h.size f = h.push (f x) := by
  apply Array.ext_getElem?
  intro i
  rw [Array.getElem?_modify, Array.getElem?_push, Array.getElem?_push]
  by_cases hi : i = h.size
  · subst hi; simp
  · rw [if_neg (by omega), if_neg (by omega), if_neg (by omega)]

theorem toBytes_ok {ng : Nat} (hH : HRel P ng ρ H w) {l n : Nat} {p : Pos} (hr : H.row (bytesFrom n 0 l) true = some (p, H')) (e : TypeId) :
    ∃ ρ' w' cap, (Conv.stringToBytes e (textOf l n)).run P w = .ok (.slice (some ⟨w.heap.size, 0, none⟩) l cap) w' ∧ RX ρ' (.oslice p 0 l 1) [.slice (some ⟨w.heap.size, 0, none⟩) l cap] ∧ HRel P ng ρ' H' w' ∧ Step ρ H w ρ' H' w' := by
  have hcut : l ≤ (Question.appendCap (textOf l n).size 0 e).cut (w.tape w.drawn (.appendCap (textOf l n).size 0 e)) := by
    rw [textOf_size]
    show l ≤ l + _
    omega
  generalize hcap : (Question.appendCap (textOf l n).size 0 e).cut (w.tape w.drawn (.appendCap (textOf l n).size 0 e)) = cap at hcut
  let el : Array Value := (textOf l n).data.map fun b => .int .u8 (b.toNat : Int)
  have hel : el.toList = (bytesL n 0 l).map fun b => .int .u8 (b.toNat : Int) := by
    show ((textOf l n).data.map _).toList = _
    rw [Array.toList_map, textOf_data]
  let c : Array Value := el ++ Array.replicate (cap - (textOf l n).size) (.int .u8 0)
  have hels : el.size = l := by
    have := congrArg List.length hel
    simpa [bytesL_length] using this
  have hcs : c.size = cap := by
    show (el ++ Array.replicate _ _).size = _
    rw [Array.size_append, Array.size_replicate, hels, textOf_size]
    omega
  obtain ⟨b1, b2, b3⟩ := bytesFrom_rel ρ n l 0
  let w1 : World := { w with drawn := w.drawn + 1 }
  let w2 : World := pushed w1 (.cells c e)
  let w3 : World := w2.freeze ⟨w.heap.size, c.size, none⟩ 1
  have hw3 : w3.heap = w.heap.push (.cells c e (c.size, c.size + 1)) := by
    show (w2.freeze ⟨w.heap.size, c.size, none⟩ 1).heap = _
    unfold World.freeze
    rw [if_neg (by omega)]
    have h2 : w2.heap = w.heap.push (.cells c e) := rfl
    simp only [h2, push_modify]
    rfl
  obtain ⟨ep, q1, q2, _, _⟩ := hH.newRow (op := true) (c := c) (elem := e) (fr := (c.size, c.size + 1)) (w' := w3) hr hw3 rfl rfl rfl (hel ▸ b1)
    (fun j hj => by
      have hj' : j < el.size := by simpa using hj
      show (el ++ _)[j]? = _
      rw [Array.getElem?_append_left hj', Array.getElem?_toList])
    (by simp [hels, hcs, hcut]) (by simp) (fun i hi => by simp; omega)
  subst ep
  refine ⟨_, w3, cap, ?_, ?_, q1, q2⟩
  · unfold Conv.stringToBytes
    rw [runB (run_choose rfl w), hcap]
    show (newRow e c >>= _).run P w1 = _
    rw [runB (run_newRow (w := w1))]
    have hsh : (shape w.heap.size).run P w2 = .ok (some (e, c.size)) w2 := by
      show Result.ok (w2.shape? w.heap.size) w2 = _
      unfold World.shape?
      have : w2.heap[w.heap.size]? = some (.cells c e) := Array.getElem?_push_size
      rw [this]
    have hmk : (markStringish ⟨w.heap.size, 0, none⟩).run P w2 = .ok () w3 := by
      unfold markStringish
      rw [runB hsh]
      rfl
    show (markStringish ⟨w.heap.size, 0, none⟩ >>= _).run P w2 = _
    rw [runB hmk, textOf_size]
    rfl
  · exact ⟨⟨w.heap.size, 0, c.size⟩, by simp [Ren.put], .inl ⟨cap, by simp [hcs], hcut, by simp⟩⟩

theorem numOf_lt : ∀ {cs : AV} {N : Nat}, numOf cs = some N → N < 256 ^ cs.len := by
  intro cs
  induction cs with
  | nil => intro N h; simp [numOf] at h; subst h; simp [AV.len]
  | cons a r _ ih =>
    intro N h
    unfold numOf at h
    split at h
    · rename_i e; cases e
    · rename_i b r' e
      cases e
      split at h
      · simp only [Option.map_eq_some_iff] at h
        obtain ⟨m, hm, rfl⟩ := h
        have := ih hm
        simp only [AV.len, Nat.pow_succ]
        omega
      · cases h
    · cases h
  | _ => intro N h; simp [numOf] at h

theorem run_bytesLoop : ∀ (cs : AV) (xs : List Value) (N : Nat) (s : ByteArray) (w : World), RX ρ cs xs → numOf cs = some N →
    (forIn xs s (fun c s => match c with
      | .int .u8 n => pure (ForInStep.yield (s.push (UInt8.ofNat n.toNat)))
      | _ => do
        stuck "bytesToString: byte expected"
        pure (ForInStep.yield s)) : Sem ByteArray).run P w = .ok ⟨(s.data.toList ++ bytesL N 0 xs.length).toArray⟩ w := by
  intro cs
  induction cs with
  | nil => intro xs N s w hr h; cases hr; simp [numOf] at h; subst h; simp [bytesL]
  | cons a r _ ih =>
    intro xs N s w hr h
    unfold numOf at h
    split at h
    · rename_i e; cases e
    · rename_i b r' e
      cases e
      split at h
      · rename_i hb
        simp only [Option.map_eq_some_iff] at h
        obtain ⟨m, hm, rfl⟩ := h
        obtain ⟨x, xs', rfl, ha, hr'⟩ := hr
        have hx := ha.int_eq.2
        rw [hx, List.forIn_cons]
        show ((pure (ForInStep.yield (s.push (UInt8.ofNat (Int.ofNat b).toNat))) : Sem (ForInStep ByteArray)) >>= _).run P w = _
        rw [runB (runP P _ w)]
        simp only
        rw [ih xs' m _ w hr' hm]
        congr 1
        have : bytesL (b + 256 * m) 0 (xs'.length + 1) = UInt8.ofNat b :: bytesL m 0 xs'.length := by
          show UInt8.ofNat (byteAt (b + 256 * m) 0) :: bytesL (b + 256 * m) (0 + 1) xs'.length = _
          rw [byteAt_zero _ _ hb, bytesL_cons _ _ hb]
        simp only [List.length_cons, this]
        simp [ByteArray.push]
      · cases h
    · cases h
  | _ => intro xs N s w hr h; simp [numOf] at h

theorem firstCells_rel {ng : Nat} (hH : HRel P ng ρ H w) {size n : Nat} {u cs : AV} {x : Value} (hu : RX ρ u [x]) (h : firstCells H size n u = some cs) (hn : ∃ m, lenOf u = some m ∧ n ≤ m) :
    ∃ xs : List Value, (∀ w' : World, w'.heap = w.heap → (Builtin.firstCells size n x).run P w' = .ok xs.toArray w') ∧ RX ρ cs xs ∧ cs.isList = true ∧ cs.len = n * size ∧ (∀ j u, cs.nth j = some u → isCell u = true) := by
  obtain ⟨m, hm, hnm⟩ := hn
  unfold firstCells at h
  split at h
  · cases h
    have hx : x = .slice none 0 0 := by simpa [RX] using hu
    subst hx
    simp [lenOf] at hm
    subst hm
    have : n = 0 := by omega
    subst this
    exact ⟨[], fun _ _ => rfl, rfl, rfl, by simp [AV.len], fun j u hu => by simp [AV.nth] at hu⟩
  · rename_i p off len cap
    obtain ⟨L, hL, _, rfl⟩ := hu.slice_eq
    split at h
    · rename_i h0
      cases h
      refine ⟨[], fun w' _ => ?_, rfl, rfl, by rw [h0]; rfl, fun j u hu => by simp [AV.nth] at hu⟩
      unfold Builtin.firstCells
      rw [h0]
      rfl
    · obtain ⟨xs, r1, r2, r3, r4, r5⟩ := hH.cells (P := P) h hL
      exact ⟨xs, r1, r2, r3, r4, r5⟩
  · rename_i p off len s
    have hu' := hu
    obtain ⟨L, hL, hx⟩ := hu
    split at h
    · rename_i h0
      cases h
      refine ⟨[], fun w' _ => ?_, rfl, rfl, by rw [h0]; rfl, fun j u hu => by simp [AV.nth] at hu⟩
      rcases hx with ⟨_, _, _, e⟩ | ⟨_, _, _, e⟩ <;> cases e <;> (unfold Builtin.firstCells; rw [h0]; rfl)
    · rename_i h0
      rcases hx with ⟨cap, _, _, e⟩ | ⟨hl, _⟩
      · cases e
        obtain ⟨xs, r1, r2, r3, r4, r5⟩ := hH.cells (P := P) h hL
        exact ⟨xs, r1, r2, r3, r4, r5⟩
      · simp [lenOf] at hm
        subst hm hl
        have : n = 0 := by omega
        subst this
        simp at h0
  · cases h

theorem lenOf_rel {u : AV} {x : Value} {n : Nat} (hu : RX ρ u [x]) (h : lenOf u = some n) : (Builtin.lenOf x).run P w = .ok n w := by
  cases u <;> simp [lenOf] at h
  case str l m => subst h; obtain ⟨_, rfl⟩ := hu.str_eq; show Result.ok (textOf l m).size w = _; rw [textOf_size]
  case slice p o l c => subst h; obtain ⟨_, _, _, rfl⟩ := hu.slice_eq; rfl
  case oslice p o l s =>
    subst h
    obtain ⟨L, _, hx⟩ := hu
    rcases hx with ⟨_, _, _, e⟩ | ⟨h0, _, _, e⟩ <;> cases e
    · rfl
    · subst h0; rfl
  case nilslice => subst h; have hx : x = .slice none 0 0 := by simpa [RX] using hu
                   subst hx; rfl

theorem bytesToString_ok {ng : Nat} (hH : HRel P ng ρ H w) {u cs : AV} {x : Value} {l N : Nat} (hu : RX ρ u [x]) (hl : lenOf u = some l) (hc : firstCells H 1 l u = some cs) (hN : numOf cs = some N) :
    (∃ ad n c, x = .slice ad n c) ∧ (Conv.bytesToString x).run P w = .ok (.string (textOf l N)) w ∧ N < 256 ^ l := by
  obtain ⟨xs, r1, r2, r3, r4, _⟩ := firstCells_rel (P := P) hH hu hc ⟨l, hl, Nat.le_refl _⟩
  have hlen := r2.len r3
  rw [r4, Nat.mul_one] at hlen
  have hlt := numOf_lt hN
  rw [r4, Nat.mul_one] at hlt
  have loop : ∀ ad : Addr, (Builtin.firstCells 1 l x).run P w = (loadCells ad l).run P w → (Conv.bytesToString (.slice (some ad) l 0)).run P w = .ok (.string (textOf l N)) w := by
    intro ad he
    rw [r1 w rfl] at he
    unfold Conv.bytesToString
    simp only
    rw [runB he.symm]
    rw [← Array.forIn_toList, show xs.toArray.toList = xs from rfl]
    refine Eq.trans (runB (f := fun s => (pure (.string s) : Sem Value)) (run_bytesLoop (P := P) cs xs N ByteArray.empty w r2 hN)) ?_
    rw [← hlen]
    rfl
  have capless : ∀ (ad : Addr) (n c : Nat), Conv.bytesToString (.slice (some ad) n c) = Conv.bytesToString (.slice (some ad) n 0) := fun _ _ _ => rfl
  cases u <;> simp [lenOf] at hl
  case str a b => simp [firstCells] at hc
  case nilslice =>
    subst hl
    have hx : x = .slice none 0 0 := by simpa [RX] using hu
    subst hx
    simp [firstCells] at hc
    subst hc
    simp [numOf] at hN
    subst hN
    exact ⟨⟨_, _, _, rfl⟩, rfl, by simp⟩
  case slice p o n c =>
    subst hl
    obtain ⟨L, _, _, rfl⟩ := hu.slice_eq
    refine ⟨⟨_, _, _, rfl⟩, ?_, hlt⟩
    rw [capless]
    apply loop
    show (loadCells _ (n * 1)).run P w = _
    rw [Nat.mul_one]
  case oslice p o n s =>
    subst hl
    obtain ⟨L, _, hx⟩ := hu
    rcases hx with ⟨c, _, _, e⟩ | ⟨h0, _, _, e⟩
    · cases e
      refine ⟨⟨_, _, _, rfl⟩, ?_, hlt⟩
      rw [capless]
      apply loop
      show (loadCells _ (n * 1)).run P w = _
      rw [Nat.mul_one]
    · cases e
      subst h0
      refine ⟨⟨_, _, _, rfl⟩, ?_, hlt⟩
      apply loop
      show (loadCells _ (0 * 1)).run P w = _
      rw [Nat.mul_one]

theorem ok_convert (E : Env P C ρ ns ls fr a H w) {s d : TypeId} {x : Operand} (hci : opP P C ns (.convert s d x) = some ci) (hev : ci.ev ls fr H = some (v, H')) :
    OpOk P C.ng ρ H w (do pure (.value (← convert s d (a.eval x)))) v H' := by
  simp only [opP] at hci
  split at hci
  · rename_i k0 k y hs hd hy
    cases hci
    obtain ⟨u, hu1, g1⟩ := bindO hev
    obtain ⟨⟨c, n⟩, hj, e⟩ := bindO g1
    cases e
    have e1 := asInt_eq hj
    subst e1
    have hx := (E.opd hy hu1).int_eq.2
    refine .pureVal E.H (x := .int k (k.wrap n)) ?_ ⟨code_lt k, by rw [kind_code]⟩
    rw [hx]
    unfold convert
    rw [runB (run_underlying hs w), runB (run_underlying hd w)]
    rfl
  · rename_i y hs hd hy
    cases hci
    obtain ⟨u, hu1, g1⟩ := bindO hev
    split at g1
    · rename_i l n
      cases g1
      have hr := E.opd hy hu1
      obtain ⟨_, hx⟩ := hr.str_eq
      refine .pureVal E.H ?_ hr
      rw [hx]
      unfold convert
      rw [runB (run_underlying hs w), runB (run_underlying hd w)]
      rfl
    · cases g1
  · rename_i e y hs hd hy
    split at hci
    · rename_i hbyte
      cases hci
      have hbe : P.underlying e = some (.int .u8) := by
        revert hbyte
        cases P.underlying e with
        | none => simp
        | some d' => cases d' <;> simp <;> (rename_i k; cases k <;> simp)
      obtain ⟨u, hu1, g1⟩ := bindO hev
      split at g1
      · rename_i l n
        obtain ⟨⟨p, H1⟩, hp, e1⟩ := bindO g1
        cases e1
        obtain ⟨_, hx⟩ := (E.opd hy hu1).str_eq
        obtain ⟨ρ', w', cap, r1, r2, r3, r4⟩ := toBytes_ok (P := P) E.H hp e
        refine .ofVal ⟨ρ', w', _, ?_, r2, r3, r4⟩
        rw [hx]
        unfold convert
        rw [runB (run_underlying hs w), runB (run_underlying hd w)]
        simp only
        rw [runB (run_underlying hbe w)]
        exact r1
      · cases g1
    · cases hci
  · rename_i e y hs hd hy
    split at hci
    · rename_i hbyte
      cases hci
      have hbe : P.underlying e = some (.int .u8) := by
        revert hbyte
        cases P.underlying e with
        | none => simp
        | some d' => cases d' <;> simp <;> (rename_i k; cases k <;> simp)
      obtain ⟨u, hu1, g1⟩ := bindO hev
      obtain ⟨l, hl, g2⟩ := bindO g1
      obtain ⟨cs, hcs, g3⟩ := bindO g2
      obtain ⟨N, hN, g4⟩ := bindO g3
      cases g4
      obtain ⟨⟨ad, n, c, hx⟩, r1, r2⟩ := bytesToString_ok (P := P) E.H (E.opd hy hu1) hl hcs hN
      refine .pureVal E.H (x := .string (textOf l N)) ?_ ⟨r2, rfl⟩
      rw [hx] at r1 ⊢
      unfold convert
      rw [runB (run_underlying hs w), runB (run_underlying hd w)]
      simp only
      rw [runB (run_underlying hbe w)]
      exact r1
    · cases hci
  · cases hci

end
end Go.Dx
