/-
  A range over a map of three texts whose order does not matter: a parser asks of each key whether its next token is that. The model's walk.
-/
import Derived.Test.YtflbicbcphmgoabGreatDoorDxSound
import Derived.Test.YtflbicbcphmgoabGreatDoorDxLast
import Derived.WideMake
import Derived.TacticsIn
set_option linter.unusedSimpArgs false
set_option linter.unusedVariables false
set_option linter.unusedSectionVars false
namespace Go.Dx
open Go.ChangeMaps (setBlock)

/-! New blocks at most. -/
theorem SameBut.refl (w : World) : SameBut w w := ⟨rfl, rfl, rfl, Nat.le_refl _, fun _ _ => rfl⟩
theorem SameBut.trans {a b c : World} (h : SameBut a b) (k : SameBut b c) : SameBut a c :=
  ⟨k.1.trans h.1, k.2.1.trans h.2.1, k.2.2.1.trans h.2.2.1, Nat.le_trans h.2.2.2.1 k.2.2.2.1, fun i hi => (k.2.2.2.2 i (Nat.lt_of_lt_of_le hi h.2.2.2.1)).trans (h.2.2.2.2 i hi)⟩
theorem SameBut.alloc {w w' : World} (h : SameBut w w') (o : Obj) : SameBut w (w'.alloc o) := h.trans (sameBut_alloc ⟨rfl, rfl, rfl, rfl⟩)
theorem SameBut.set {w w' : World} (h : SameBut w w') {r : Nat} (hr : w.heap.size ≤ r) (o : Obj) : SameBut w (setBlock w' r o) := by
  refine ⟨h.1, h.2.1, h.2.2.1, ?_, fun i hi => ?_⟩
  · show _ ≤ (w'.heap.setIfInBounds r o).size
    simpa using h.2.2.2.1
  · show (w'.heap.setIfInBounds r o)[i]? = _
    rw [Array.getElem?_setIfInBounds_ne (by omega)]
    exact h.2.2.2.2 i hi
theorem SameBut.drew {w w' : World} (h : SameBut w w') : SameBut w w'.drew := h.trans ⟨rfl, rfl, rfl, Nat.le_refl _, fun _ _ => rfl⟩
theorem set_get {w : World} {r : Nat} (hr : r < w.heap.size) (o : Obj) : (setBlock w r o).heap[r]? = some o := by
  show (w.heap.setIfInBounds r o)[r]? = _
  simp [hr]
theorem set_ne {w : World} {r i : Nat} (h : r ≠ i) (o : Obj) : (setBlock w r o).heap[i]? = w.heap[i]? := by
  show (w.heap.setIfInBounds r o)[i]? = _
  exact Array.getElem?_setIfInBounds_ne h
theorem set_size {w : World} {r : Nat} (o : Obj) : (setBlock w r o).heap.size = w.heap.size := by
  show (w.heap.setIfInBounds r o).size = _
  simp

section
variable {P : Program} {ro : Option Nat} {ops : Array Oper} {Q : Exit → Act → World → Prop} {a : Act} {w w' : World} {o : Oper} {rest : List Oper}

/-! Slots. -/
theorem eval_put {d t : Tmp} {x : Value} (hd : d < a.tmps.size) : (a.put (some d) x).eval (.tmp t) = if t = d then x else a.eval (.tmp t) := by
  simp only [Act.eval, Act.put, Array.getD_eq_getD_getElem?, Array.getElem?_setIfInBounds]
  by_cases h : t = d
  · subst h; simp [hd]
  · rw [if_neg (Ne.symm h), if_neg h]

/-- One instruction. -/
structure IsOp (o : Oper) (dst : Option Tmp) (op : Op) : Prop where
  dst : o.dst = dst
  op : o.op = op
  guard : o.guard = none

theorem st_val {d : Option Tmp} {op : Op} {v : Value} (hi : IsOp o d op) (hdf : ∀ c, op ≠ .defer c) (hr : (execOp a.eval o).run P w = .ok (.value v) w') (h : wpListIn (fz ro) 0 P ops Q rest (a.put d v) w') : wpListIn (fz ro) 0 P ops Q (o :: rest) a w := by
  refine wpListIn_plain hi.guard fun K hK => ⟨fun _ _ => trivial, ?_⟩
  rw [Oper.semAt_eq _ _ _ (by rw [hi.op]; exact hdf), hr]
  rw [Oper.uponIn_value, hi.dst]
  exact hK _ _ h
theorem st_skip {op : Op} (hi : IsOp o none op) (hdf : ∀ c, op ≠ .defer c) (hr : (execOp a.eval o).run P w = .ok .skip w') (h : wpListIn (fz ro) 0 P ops Q rest a w') : wpListIn (fz ro) 0 P ops Q (o :: rest) a w := by
  refine wpListIn_plain hi.guard fun K hK => ⟨fun _ _ => trivial, ?_⟩
  rw [Oper.semAt_eq _ _ _ (by rw [hi.op]; exact hdf), hr]
  rw [Oper.uponIn_skip, hi.dst]
  exact hK _ _ h
theorem st_call {d : Option Tmp} {op : Op} {f : FuncId} {args : Array Value} (hi : IsOp o d op) (hdf : ∀ c, op ≠ .defer c) (hr : (execOp a.eval o).run P w = .ok (.enter f args) w')
    (h : Calls P f args w' fun e w'' => ∃ v, e = .returned v ∧ wpListIn (fz ro) 0 P ops Q rest (a.put d v) w'') : wpListIn (fz ro) 0 P ops Q (o :: rest) a w := by
  refine wpListIn_plain hi.guard fun K hK => ⟨fun _ _ => trivial, ?_⟩
  rw [Oper.semAt_eq _ _ _ (by rw [hi.op]; exact hdf), hr]
  rw [Oper.uponIn_enter]
  refine ⟨fun h => (by cases h), callsIn_fz.2 (Calls.mono h ?_)⟩
  rintro e w'' ⟨v, rfl, h1⟩
  rw [hi.dst]
  exact hK _ _ h1

/-! The map. -/
theorem run_ins {mty kt et : TypeId} {r clock : Nat} {es : Array MapEntry} {s : ByteArray} {val : Value} (hm : P.underlying mty = some (.map kt et)) (hk : P.underlying kt = some .string) (hb : w.heap[r]? = some (.map es clock))
    (hf : Instr.findNow .string (.string s) es.toList 0 = some none) :
    (Instr.mapUpdate mty (.map (some r)) (.string s) val).run P w = .ok () (setBlock w r (.map (es.push { key := .string s, val := val, born := clock }) (clock + 1))) := by
  have hc : (Instr.checkKey false 10000 kt (.string s)).run P w = .ok () w := MapKept.run_checkKey (k := .string s) hk (by simp [MapKept.IsKey]) false 9999
  simp [Instr.mapUpdate, run_underlying hm, MapKept.run_getObj_map hb, hc, MapKept.run_findKey hk hf, MapKept.run_setObj_map _ hb, Result.andThen, setBlock]

theorem born_inj : ∀ {l : List MapEntry} {x y : MapEntry}, (l.map (·.born)).Nodup → x ∈ l → y ∈ l → x.born = y.born → x = y := by
  intro l
  induction l with
  | nil => intro x y _ hx; cases hx
  | cons z l ih =>
    intro x y hn hx hy h
    simp only [List.map_cons, List.nodup_cons] at hn
    rcases List.mem_cons.1 hx with e1 | hx' <;> rcases List.mem_cons.1 hy with e2 | hy'
    · rw [e1, e2]
    · subst e1; exact (hn.1 (h ▸ List.mem_map.2 ⟨y, hy', rfl⟩)).elim
    · subst e2; exact (hn.1 (h ▸ List.mem_map.2 ⟨x, hx', rfl⟩)).elim
    · exact ih hn.2 hx' hy' h
def keyS (v : Value) : ByteArray := match v with | .string s => s | _ => ByteArray.empty

/-- What stands in a frame as it did, but for these slots. -/
def mods : List Nat := [3, 4, 7, 8, 9, 10, 11, 12, 13, 14, 15, 16, 17, 18]
structure Keep (a a' : Act) : Prop where
  defers : a'.defers = a.defers
  size : a'.tmps.size = a.tmps.size
  same : ∀ t, t ∉ mods → a'.tmps[t]? = a.tmps[t]?
theorem Keep.refl (a : Act) : Keep a a := ⟨rfl, rfl, fun _ _ => rfl⟩
theorem Keep.put {a' : Act} (h : Keep a a') {d : Tmp} (hd : d ∈ mods) (x : Value) : Keep a (a'.put (some d) x) := by
  refine ⟨by rw [put_defers]; exact h.defers, by rw [put_size]; exact h.size, fun t ht => ?_⟩
  rw [put_tmps_ne (by rintro ⟨⟩; exact ht hd)]
  exact h.same t ht

end

section
variable {P : Program} {ro : Option Nat} {Q : Exit → Act → World → Prop} {a : Act} {w : World}

theorem any_walk {o0 o1 o2 o3 o4 o5 p0 p1 q0 q1 q2 q3 q4 r0 r1 r2 r3 : Oper} {i1 i2 i3 i4 b0 b1 : Nat} {leave : Code} {tm ts te tp tsl : TypeId} {fis : FuncId} {ats : Array TypeId}
    {k1 k2 k3 : ByteArray} {v1 v2 v3 kd : Int} {tx : ByteArray} {pp : Value}
    (I0 : IsOp o0 (some 7) (.makeMap tm none)) (I1 : IsOp o1 none (.insert tm (.tmp 7) (.const (.string k1)) (.const (.int .i64 v1)))) (I2 : IsOp o2 none (.insert tm (.tmp 7) (.const (.string k2)) (.const (.int .i64 v2))))
    (I3 : IsOp o3 none (.insert tm (.tmp 7) (.const (.string k3)) (.const (.int .i64 v3)))) (I4 : IsOp o4 (some 8) (.move (.tmp 7))) (I5 : IsOp o5 (some 9) (.range tm (.tmp 8)))
    (J0 : IsOp p0 (some 10) (.next (.tmp 9) false)) (J1 : IsOp p1 (some 11) (.extract (.tmp 10) 0))
    (K0 : IsOp q0 (some 12) (.entry (.tmp 9))) (K1 : IsOp q1 (some 13) (.extract (.tmp 12) 0)) (K2 : IsOp q2 (some 14) (.extract (.tmp 12) 1)) (K3 : IsOp q3 (some 3) (.assign (.tmp 13))) (K4 : IsOp q4 (some 4) (.assign (.tmp 14)))
    (L0 : IsOp r0 (some 15) (.load tp (.tmp 1))) (L1 : IsOp r1 (some 16) (.move (.tmp 3))) (L2 : IsOp r2 (some 17) (.buildSlice tsl 1 #[(0, .tmp 16)])) (L3 : IsOp r3 (some 18) (.call { callee := .value (.func fis), args := #[.tmp 15, .tmp 17], argTypes := ats }))
    (hm : P.underlying tm = some (.map ts te)) (hk : P.underlying ts = some .string)
    (hn2 : Instr.findNow .string (.string k2) [⟨.string k1, .int .i64 v1, 0⟩] 0 = some none) (hn3 : Instr.findNow .string (.string k3) [⟨.string k1, .int .i64 v1, 0⟩, ⟨.string k2, .int .i64 v2, 1⟩] 0 = some none)
    (hbs : ∀ (w : World) (s : ByteArray), (Instr.buildSlice tsl 1 #[(0, .string s)]).run P w = .ok (.slice (some ⟨w.heap.size, 0, none⟩) 1 1) (w.alloc (.cells #[.string s] ts)))
    (hex : ∃ fn, P.funcs[fis]? = some fn ∧ fn.body.isSome = true ∧ fn.name ≠ "runtime.NumGoroutine")
    (hload : ∀ w', SameBut w w' → (Instr.loadAt tp (a.eval (.tmp 1))).run P w' = .ok pp w')
    (his : ∀ w' bv s, SameBut w w' → w'.cell? ⟨bv, 0, none⟩ = some (.string s) → Calls P fis #[pp, .slice (some ⟨bv, 0, none⟩) 1 1] w' fun e w'' => e = .returned (.bool (kd == 4 && tx.toList == s.toList)) ∧ SameBut w' w'')
    (hsz : 19 ≤ a.tmps.size)
    (hnorm : (∀ s, s = k1 ∨ s = k2 ∨ s = k3 → (kd == 4 && tx.toList == s.toList) = false) → ∀ a' w', Keep a a' → SameBut w w' → Q .normal a' w')
    (hleave : ∀ s v, (s = k1 ∧ v = v1) ∨ (s = k2 ∧ v = v2) ∨ (s = k3 ∧ v = v3) → (kd == 4 && tx.toList == s.toList) = true → ∀ a' w', Keep a a' → a'.tmps[4]? = some (.int .i64 v) → SameBut w w' →
      leave.wpIn (fz ro) 0 P (fun e a w => (e = .ret ∨ ∃ ch, e = .panic ch) ∧ Q e a w) a' w') :
    (Code.seq (.region i1 [o0, o1, o2, o3, o4, o5].toArray false) (.block b0 (.loop (.seq (.region i2 [p0, p1].toArray false) (.seq (.cond (.tmp 11) .skip (.exit b0))
      (.block b1 (.seq (.region i3 [q0, q1, q2, q3, q4].toArray false) (.seq (.region i4 [r0, r1, r2, r3].toArray false) (.cond (.tmp 18) leave .skip))))))))).wpIn (fz ro) 0 P Q a w := by
  have ev : ∀ {a' : Act} {d t : Tmp} {x : Value}, Keep a a' → d < 19 → (a'.put (some d) x).eval (.tmp t) = if t = d then x else a'.eval (.tmp t) := by
    intro a' d t x hK hd
    exact eval_put (by rw [hK.size]; exact Nat.lt_of_lt_of_le hd hsz)
  refine wpIn_seq (wpIn_region_lit ?_)
  -- the map
  have K0' := (Keep.refl a).put (d := 7) (by decide) (.map (some w.heap.size))
  refine st_val I0 (by simp) (v := .map (some w.heap.size)) (w' := w.alloc (.map #[] 0)) ?_ ?_
  · unfold execOp; rw [I0.op]; simp [Instr.makeMap]
  have S0 : SameBut w (w.alloc (.map #[] 0)) := (SameBut.refl w).alloc _
  have z0 : (w.alloc (.map #[] 0)).heap.size = w.heap.size + 1 := World.size_alloc _ _
  have b0' : (w.alloc (.map #[] 0)).heap[w.heap.size]? = some (.map #[] 0) := heap_alloc_new _ _
  generalize hw0 : w.alloc (.map #[] 0) = w0 at S0 z0 b0' ⊢
  have e7 : (a.put (some 7) (.map (some w.heap.size))).eval (.tmp 7) = .map (some w.heap.size) := by rw [ev (Keep.refl a) (by decide)]; simp
  refine st_skip I1 (by simp) (w' := setBlock w0 w.heap.size (.map #[⟨.string k1, .int .i64 v1, 0⟩] 1)) ?_ ?_
  · unfold execOp; rw [I1.op]; simp only [e7]
    exact run_skip (run_ins hm hk b0' rfl)
  refine st_skip I2 (by simp) (w' := setBlock (setBlock w0 w.heap.size (.map #[⟨.string k1, .int .i64 v1, 0⟩] 1)) w.heap.size (.map #[⟨.string k1, .int .i64 v1, 0⟩, ⟨.string k2, .int .i64 v2, 1⟩] 2)) ?_ ?_
  · unfold execOp; rw [I2.op]; simp only [e7]
    exact run_skip (run_ins hm hk (set_get (by omega) _) hn2)
  have S2 := (S0.set (Nat.le_refl _) (.map #[⟨.string k1, .int .i64 v1, 0⟩] 1)).set (Nat.le_refl _) (.map #[⟨.string k1, .int .i64 v1, 0⟩, ⟨.string k2, .int .i64 v2, 1⟩] 2)
  have g2 : (setBlock (setBlock w0 w.heap.size (.map #[⟨.string k1, .int .i64 v1, 0⟩] 1)) w.heap.size (.map #[⟨.string k1, .int .i64 v1, 0⟩, ⟨.string k2, .int .i64 v2, 1⟩] 2)).heap[w.heap.size]? = _ := set_get (by rw [set_size]; omega) _
  have z2 : (setBlock (setBlock w0 w.heap.size (.map #[⟨.string k1, .int .i64 v1, 0⟩] 1)) w.heap.size (.map #[⟨.string k1, .int .i64 v1, 0⟩, ⟨.string k2, .int .i64 v2, 1⟩] 2)).heap.size = w.heap.size + 1 := by rw [set_size, set_size, z0]
  generalize setBlock (setBlock w0 w.heap.size (.map #[⟨.string k1, .int .i64 v1, 0⟩] 1)) w.heap.size (.map #[⟨.string k1, .int .i64 v1, 0⟩, ⟨.string k2, .int .i64 v2, 1⟩] 2) = w2 at S2 g2 z2 ⊢
  let es : Array MapEntry := #[⟨.string k1, .int .i64 v1, 0⟩, ⟨.string k2, .int .i64 v2, 1⟩, ⟨.string k3, .int .i64 v3, 2⟩]
  refine st_skip I3 (by simp) (w' := setBlock w2 w.heap.size (.map es 3)) ?_ ?_
  · unfold execOp; rw [I3.op]; simp only [e7]
    exact run_skip (run_ins hm hk g2 hn3)
  have S3 := S2.set (Nat.le_refl _) (.map es 3)
  have g3 : (setBlock w2 w.heap.size (.map es 3)).heap[w.heap.size]? = _ := set_get (by omega) _
  have z3 : (setBlock w2 w.heap.size (.map es 3)).heap.size = w.heap.size + 1 := by rw [set_size, z2]
  generalize setBlock w2 w.heap.size (.map es 3) = w3 at S3 g3 z3 ⊢
  refine st_val I4 (by simp) (v := .map (some w.heap.size)) (w' := w3) ?_ ?_
  · unfold execOp; rw [I4.op]; simp only [e7]; rfl
  have K1' := K0'.put (d := 8) (by decide) (.map (some w.heap.size))
  have e8 : ((a.put (some 7) (.map (some w.heap.size))).put (some 8) (.map (some w.heap.size))).eval (.tmp 8) = .map (some w.heap.size) := by rw [ev K0' (by decide)]; simp
  generalize (a.put (some 7) (.map (some w.heap.size))).put (some 8) (.map (some w.heap.size)) = a2 at K1' e8 ⊢
  refine st_val I5 (by simp) (v := .pointer (some ⟨w3.heap.size, 0, none⟩)) (w' := w3.alloc (.mapIter (some w.heap.size) 3 #[] 3)) ?_ ?_
  · unfold execOp; rw [I5.op]; simp only [e8]
    exact run_val (run_range_map w3 tm ts te w.heap.size es 3 hm g3)
  have K2' := K1'.put (d := 9) (by decide) (.pointer (some ⟨w3.heap.size, 0, none⟩))
  have e9 : (a2.put (some 9) (.pointer (some ⟨w3.heap.size, 0, none⟩))).eval (.tmp 9) = .pointer (some ⟨w3.heap.size, 0, none⟩) := by rw [ev K1' (by decide)]; simp
  have S4 := S3.alloc (.mapIter (some w.heap.size) 3 #[] 3)
  have g4 : (w3.alloc (.mapIter (some w.heap.size) 3 #[] 3)).heap[w.heap.size]? = some (.map es 3) := by rw [heap_alloc_old w3 _ (by omega)]; exact g3
  have h4 : (w3.alloc (.mapIter (some w.heap.size) 3 #[] 3)).heap[w3.heap.size]? = some (.mapIter (some w.heap.size) 3 #[] 3) := heap_alloc_new w3 _
  have z4 : (w3.alloc (.mapIter (some w.heap.size) 3 #[] 3)).heap.size = w3.heap.size + 1 := World.size_alloc _ _
  have hr : w3.heap.size = w.heap.size + 1 := z3
  generalize w3.alloc (.mapIter (some w.heap.size) 3 #[] 3) = w4 at S4 g4 h4 z4 ⊢
  generalize a2.put (some 9) (.pointer (some ⟨w3.heap.size, 0, none⟩)) = a3 at K2' e9 ⊢
  generalize w3.heap.size = r at e9 h4 z4 hr
  show Exit.then _ Q .normal a3 w4
  refine wpIn_block ?_
  have hst : (∀ x ∈ es.toList, x.born < 3) ∧ (es.toList.map (·.born)).Nodup := by constructor <;> simp [es]
  have hkey : ∀ x ∈ es.toList, ∃ s v, x.key = .string s ∧ x.val = .int .i64 v ∧ ((s = k1 ∧ v = v1) ∨ (s = k2 ∧ v = v2) ∨ (s = k3 ∧ v = v3)) := by
    intro x hx
    simp only [es, List.mem_cons, List.not_mem_nil, or_false] at hx
    rcases hx with rfl | rfl | rfl
    · exact ⟨_, _, rfl, rfl, .inl ⟨rfl, rfl⟩⟩
    · exact ⟨_, _, rfl, rfl, .inr (.inl ⟨rfl, rfl⟩)⟩
    · exact ⟨_, _, rfl, rfl, .inr (.inr ⟨rfl, rfl⟩)⟩
  have hall : ∀ s, s = k1 ∨ s = k2 ∨ s = k3 → ∃ x ∈ es.toList, x.key = .string s := by
    rintro s (rfl | rfl | rfl)
    · exact ⟨_, List.mem_cons_self .., rfl⟩
    · exact ⟨_, List.mem_cons_of_mem _ (List.mem_cons_self ..), rfl⟩
    · exact ⟨_, List.mem_cons_of_mem _ (List.mem_cons_of_mem _ (List.mem_cons_self ..)), rfl⟩
  refine wpIn_loop (fun a' w' => Keep a a' ∧ a'.eval (.tmp 9) = .pointer (some ⟨r, 0, none⟩) ∧ SameBut w w' ∧ r < w'.heap.size ∧ w'.heap[w.heap.size]? = some (.map es 3) ∧
      ∃ seen c0, w'.heap[r]? = some (.mapIter (some w.heap.size) 3 seen c0) ∧ 3 ≤ c0 ∧ ∀ x ∈ es.toList, seen.contains x.born = true → (kd == 4 && tx.toList == (keyS x.key).toList) = false)
    (fun _ w' => (leftOf es (w'.iterSeen r)).size) ⟨K2', e9, S4, by omega, g4, #[], 3, h4, Nat.le_refl _, fun x _ h => by simp at h⟩ ?_
  rintro a1 w1 ⟨hK, h9, hS, hrs, hmap, seen, c0, hit, hc0, hno⟩
  refine wpIn_seq (wpIn_region_lit ?_)
  have hseen : w1.iterSeen r = seen := by simp [World.iterSeen, hit]
  rcases run_next_at (P := P) w1 p0.type r w.heap.size 3 c0 seen es 3 hit hmap hst.1 hc0 with ⟨h0, hrun⟩ | ⟨e, he, w5, hal, hrun⟩
  · -- no more
    refine st_val J0 (by simp) (v := .tuple #[.bool false]) (w' := w1) ?_ ?_
    · unfold execOp; rw [J0.op]; simp only [h9]; exact run_val hrun
    have Ka := hK.put (d := 10) (by decide) (.tuple #[.bool false])
    have e10 : (a1.put (some 10) (.tuple #[.bool false])).eval (.tmp 10) = .tuple #[.bool false] := by rw [ev hK (by decide)]; simp
    refine st_val J1 (by simp) (v := .bool false) (w' := w1) ?_ ?_
    · unfold execOp; rw [J1.op]; simp only [e10]; rfl
    have Kb := Ka.put (d := 11) (by decide) (.bool false)
    refine wpIn_seq (wpIn_cond_false (by rw [ev Ka (by decide)]; simp) (wpIn_exit ?_))
    simp only [Exit.then, Exit.inBlock, if_true]
    refine hnorm (fun s hs => ?_) _ _ Kb hS
    obtain ⟨x, hx, hxk⟩ := hall s hs
    have hsx : seen.contains x.born = true := by
      cases hc : seen.contains x.born with
      | true => rfl
      | false =>
        exfalso
        have hmem : x ∈ leftOf es seen := by unfold leftOf; simp only [Array.mem_filter]; exact ⟨by simpa using hx, by rw [hc]; rfl⟩
        have := Array.size_pos_of_mem hmem
        omega
    have := hno x hx hsx
    rw [hxk] at this
    exact this
  · -- one more
    obtain ⟨s, v, hek, hev, hsv⟩ := hkey e (mem_left he).1
    refine st_val J0 (by simp) (v := .tuple #[.bool true, e.key, e.val]) (w' := setBlock w5 r (.mapIter (some w.heap.size) 3 (seen.push e.born) 3)) ?_ ?_
    · unfold execOp; rw [J0.op]; simp only [h9]; exact run_val hrun
    have hS5 : SameBut w w5 := by rcases hal with rfl | rfl; exact hS; exact hS.drew
    have hz5 : w5.heap.size = w1.heap.size := by rcases hal with rfl | rfl <;> rfl
    have hm5 : w5.heap[w.heap.size]? = some (.map es 3) := by rcases hal with rfl | rfl <;> exact hmap
    have S6 := hS5.set (r := r) (by omega) (.mapIter (some w.heap.size) 3 (seen.push e.born) 3)
    have g6 : (setBlock w5 r (.mapIter (some w.heap.size) 3 (seen.push e.born) 3)).heap[r]? = _ := set_get (by omega) _
    have m6 : (setBlock w5 r (.mapIter (some w.heap.size) 3 (seen.push e.born) 3)).heap[w.heap.size]? = some (.map es 3) := by rw [set_ne (by omega)]; exact hm5
    have z6 : (setBlock w5 r (.mapIter (some w.heap.size) 3 (seen.push e.born) 3)).heap.size = w1.heap.size := by rw [set_size, hz5]
    generalize setBlock w5 r (.mapIter (some w.heap.size) 3 (seen.push e.born) 3) = w6 at S6 g6 m6 z6 ⊢
    have Ka := hK.put (d := 10) (by decide) (.tuple #[.bool true, e.key, e.val])
    have e10 : (a1.put (some 10) (.tuple #[.bool true, e.key, e.val])).eval (.tmp 10) = .tuple #[.bool true, e.key, e.val] := by rw [ev hK (by decide)]; simp
    have n10 : (a1.put (some 10) (.tuple #[.bool true, e.key, e.val])).eval (.tmp 9) = .pointer (some ⟨r, 0, none⟩) := by rw [ev hK (by decide)]; simpa using h9
    generalize a1.put (some 10) (.tuple #[.bool true, e.key, e.val]) = c1 at Ka e10 n10 ⊢
    refine st_val J1 (by simp) (v := .bool true) (w' := w6) ?_ ?_
    · unfold execOp; rw [J1.op]; simp only [e10]; rfl
    have Kb := Ka.put (d := 11) (by decide) (.bool true)
    have n11 : (c1.put (some 11) (.bool true)).eval (.tmp 9) = .pointer (some ⟨r, 0, none⟩) := by rw [ev Ka (by decide)]; simpa using n10
    refine wpIn_seq (wpIn_cond_true (by rw [ev Ka (by decide)]; simp) (wpIn_skip ?_))
    generalize c1.put (some 11) (.bool true) = c2 at Kb n11 ⊢
    show (Code.block b1 _).wpIn _ _ _ _ _ _
    refine wpIn_block (wpIn_seq (wpIn_region_lit ?_))
    refine st_val K0 (by simp) (v := .tuple #[e.key, e.val]) (w' := w6) ?_ ?_
    · unfold execOp; rw [K0.op]; simp only [n11]
      exact run_val (run_entry_at w6 r w.heap.size 3 seen es 3 e g6 m6 (mem_left he).1 hst.2)
    have Kc := Kb.put (d := 12) (by decide) (.tuple #[e.key, e.val])
    have e12 : (c2.put (some 12) (.tuple #[e.key, e.val])).eval (.tmp 12) = .tuple #[e.key, e.val] := by rw [ev Kb (by decide)]; simp
    have n12 : (c2.put (some 12) (.tuple #[e.key, e.val])).eval (.tmp 9) = .pointer (some ⟨r, 0, none⟩) := by rw [ev Kb (by decide)]; simpa using n11
    generalize c2.put (some 12) (.tuple #[e.key, e.val]) = c3 at Kc e12 n12 ⊢
    refine st_val K1 (by simp) (v := e.key) (w' := w6) ?_ ?_
    · unfold execOp; rw [K1.op]; simp only [e12]; rfl
    have Kd := Kc.put (d := 13) (by decide) e.key
    have e13 : (c3.put (some 13) e.key).eval (.tmp 13) = e.key := by rw [ev Kc (by decide)]; simp
    have f13 : (c3.put (some 13) e.key).eval (.tmp 12) = .tuple #[e.key, e.val] := by rw [ev Kc (by decide)]; simpa using e12
    have n13 : (c3.put (some 13) e.key).eval (.tmp 9) = .pointer (some ⟨r, 0, none⟩) := by rw [ev Kc (by decide)]; simpa using n12
    generalize c3.put (some 13) e.key = c4 at Kd e13 f13 n13 ⊢
    refine st_val K2 (by simp) (v := e.val) (w' := w6) ?_ ?_
    · unfold execOp; rw [K2.op]; simp only [f13]; rfl
    have Ke := Kd.put (d := 14) (by decide) e.val
    have e14 : (c4.put (some 14) e.val).eval (.tmp 14) = e.val := by rw [ev Kd (by decide)]; simp
    have f14 : (c4.put (some 14) e.val).eval (.tmp 13) = e.key := by rw [ev Kd (by decide)]; simpa using e13
    have n14 : (c4.put (some 14) e.val).eval (.tmp 9) = .pointer (some ⟨r, 0, none⟩) := by rw [ev Kd (by decide)]; simpa using n13
    generalize c4.put (some 14) e.val = c5 at Ke e14 f14 n14 ⊢
    refine st_val K3 (by simp) (v := e.key) (w' := w6) ?_ ?_
    · unfold execOp; rw [K3.op]; simp only [f14]; rfl
    have Kf := Ke.put (d := 3) (by decide) e.key
    have e3 : (c5.put (some 3) e.key).eval (.tmp 3) = e.key := by rw [ev Ke (by decide)]; simp
    have f3 : (c5.put (some 3) e.key).eval (.tmp 14) = e.val := by rw [ev Ke (by decide)]; simpa using e14
    have n3 : (c5.put (some 3) e.key).eval (.tmp 9) = .pointer (some ⟨r, 0, none⟩) := by rw [ev Ke (by decide)]; simpa using n14
    generalize c5.put (some 3) e.key = c6 at Kf e3 f3 n3 ⊢
    refine st_val K4 (by simp) (v := e.val) (w' := w6) ?_ ?_
    · unfold execOp; rw [K4.op]; simp only [f3]; rfl
    have Kg := Kf.put (d := 4) (by decide) e.val
    have e4 : (c6.put (some 4) e.val).tmps[4]? = some e.val := by
      have : 4 < c6.tmps.size := by rw [Kf.size]; omega
      simp [Act.put, this]
    have f4 : (c6.put (some 4) e.val).eval (.tmp 3) = e.key := by rw [ev Kf (by decide)]; simpa using e3
    have n4 : (c6.put (some 4) e.val).eval (.tmp 9) = .pointer (some ⟨r, 0, none⟩) := by rw [ev Kf (by decide)]; simpa using n3
    generalize c6.put (some 4) e.val = c7 at Kg e4 f4 n4 ⊢
    show (Code.seq _ _).wpIn _ _ _ _ _ _
    refine wpIn_seq (wpIn_region_lit ?_)
    have e1 : c7.eval (.tmp 1) = a.eval (.tmp 1) := by
      simp only [Act.eval, Array.getD_eq_getD_getElem?]
      rw [Kg.same 1 (by decide)]
    refine st_val L0 (by simp) (v := pp) (w' := w6) ?_ ?_
    · unfold execOp; rw [L0.op]; simp only [e1]
      exact run_val (hload w6 S6)
    have Kh := Kg.put (d := 15) (by decide) pp
    have e15 : (c7.put (some 15) pp).eval (.tmp 15) = pp := by rw [ev Kg (by decide)]; simp
    have f15 : (c7.put (some 15) pp).eval (.tmp 3) = e.key := by rw [ev Kg (by decide)]; simpa using f4
    have n15 : (c7.put (some 15) pp).eval (.tmp 9) = .pointer (some ⟨r, 0, none⟩) := by rw [ev Kg (by decide)]; simpa using n4
    have i15 : (c7.put (some 15) pp).tmps[4]? = some e.val := by rw [put_tmps_ne (by simp)]; exact e4
    generalize c7.put (some 15) pp = c8 at Kh e15 f15 n15 i15 ⊢
    refine st_val L1 (by simp) (v := e.key) (w' := w6) ?_ ?_
    · unfold execOp; rw [L1.op]; simp only [f15]; rfl
    have Ki := Kh.put (d := 16) (by decide) e.key
    have e16 : (c8.put (some 16) e.key).eval (.tmp 16) = e.key := by rw [ev Kh (by decide)]; simp
    have f16 : (c8.put (some 16) e.key).eval (.tmp 15) = pp := by rw [ev Kh (by decide)]; simpa using e15
    have n16 : (c8.put (some 16) e.key).eval (.tmp 9) = .pointer (some ⟨r, 0, none⟩) := by rw [ev Kh (by decide)]; simpa using n15
    have i16 : (c8.put (some 16) e.key).tmps[4]? = some e.val := by rw [put_tmps_ne (by simp)]; exact i15
    generalize c8.put (some 16) e.key = c9 at Ki e16 f16 n16 i16 ⊢
    refine st_val L2 (by simp) (v := .slice (some ⟨w6.heap.size, 0, none⟩) 1 1) (w' := w6.alloc (.cells #[.string s] ts)) ?_ ?_
    · unfold execOp; rw [L2.op]
      simp only [List.map_toArray, List.map_cons, List.map_nil, e16, hek]
      exact run_val (hbs w6 s)
    have Kj := Ki.put (d := 17) (by decide) (.slice (some ⟨w6.heap.size, 0, none⟩) 1 1)
    have e17 : (c9.put (some 17) (.slice (some ⟨w6.heap.size, 0, none⟩) 1 1)).eval (.tmp 17) = .slice (some ⟨w6.heap.size, 0, none⟩) 1 1 := by rw [ev Ki (by decide)]; simp
    have f17 : (c9.put (some 17) (.slice (some ⟨w6.heap.size, 0, none⟩) 1 1)).eval (.tmp 15) = pp := by rw [ev Ki (by decide)]; simpa using f16
    have n17 : (c9.put (some 17) (.slice (some ⟨w6.heap.size, 0, none⟩) 1 1)).eval (.tmp 9) = .pointer (some ⟨r, 0, none⟩) := by rw [ev Ki (by decide)]; simpa using n16
    have i17 : (c9.put (some 17) (.slice (some ⟨w6.heap.size, 0, none⟩) 1 1)).tmps[4]? = some e.val := by rw [put_tmps_ne (by simp)]; exact i16
    generalize c9.put (some 17) (.slice (some ⟨w6.heap.size, 0, none⟩) 1 1) = c10 at Kj e17 f17 n17 i17 ⊢
    obtain ⟨fn, hf1, hf2, hf3⟩ := hex
    refine st_call L3 (by simp) (f := fis) (args := #[pp, .slice (some ⟨w6.heap.size, 0, none⟩) 1 1]) (w' := w6.alloc (.cells #[.string s] ts)) ?_ ?_
    · unfold execOp; rw [L3.op]
      show (do let d ← resolve c10.eval { callee := .value (.func fis), args := #[.tmp 15, .tmp 17], argTypes := ats } r3.type; invoke d.target d.args : Sem Next).run P _ = _
      have hres : ∀ w, (resolve c10.eval { callee := .value (.func fis), args := #[.tmp 15, .tmp 17], argTypes := ats } r3.type).run P w = .ok { target := .fn (.func fis) #[], args := #[] ++ (#[Operand.tmp 15, .tmp 17] : Array Operand).map c10.eval } w := fun _ => rfl
      rw [runB (hres _)]
      show (callFunc fis ((#[] ++ (#[Operand.tmp 15, .tmp 17] : Array Operand).map c10.eval) ++ #[])).run P _ = _
      rw [run_callFunc hf1 hf2 hf3]
      simp only [List.map_toArray, List.map_cons, List.map_nil, e17, f17, Array.empty_append, Array.append_empty]
    have hcell : (w6.alloc (.cells #[.string s] ts)).cell? ⟨w6.heap.size, 0, none⟩ = some (.string s) := by
      rw [World.cell?_alloc_at _ _ _ _ rfl]; rfl
    have S7 := S6.alloc (.cells #[.string s] ts)
    refine Calls.mono (his _ w6.heap.size s S7 hcell) ?_
    rintro e' w8 ⟨rfl, hS8⟩
    refine ⟨_, rfl, ?_⟩
    have z7 : (w6.alloc (.cells #[.string s] ts)).heap.size = w6.heap.size + 1 := World.size_alloc _ _
    have g7 : (w6.alloc (.cells #[.string s] ts)).heap[r]? = _ := (heap_alloc_old w6 _ (by omega)).trans g6
    have m7 : (w6.alloc (.cells #[.string s] ts)).heap[w.heap.size]? = _ := (heap_alloc_old w6 _ (by omega)).trans m6
    have g8 : w8.heap[r]? = _ := (hS8.2.2.2.2 r (by omega)).trans g7
    have m8 : w8.heap[w.heap.size]? = _ := (hS8.2.2.2.2 _ (by omega)).trans m7
    have z8 := hS8.2.2.2.1
    have S8 := S7.trans hS8
    have Kk := Kj.put (d := 18) (by decide) (.bool (kd == 4 && tx.toList == s.toList))
    have n18 : (c10.put (some 18) (.bool (kd == 4 && tx.toList == s.toList))).eval (.tmp 9) = .pointer (some ⟨r, 0, none⟩) := by rw [ev Kj (by decide)]; simpa using n17
    have i18 : (c10.put (some 18) (.bool (kd == 4 && tx.toList == s.toList))).tmps[4]? = some e.val := by rw [put_tmps_ne (by simp)]; exact i17
    have e18 : (c10.put (some 18) (.bool (kd == 4 && tx.toList == s.toList))).eval (.tmp 18) = .bool (kd == 4 && tx.toList == s.toList) := by rw [ev Kj (by decide)]; simp
    generalize c10.put (some 18) (.bool (kd == 4 && tx.toList == s.toList)) = c11 at Kk n18 i18 e18 ⊢
    show (Code.cond _ _ _).wpIn _ _ _ _ _ _
    refine wpIn_cond_split e18 (fun ht => ?_) (fun hf => ?_)
    · refine wpIn_mono (hleave s v hsv ht c11 w8 Kk (by rw [i18, hev]) S8) ?_
      rintro e a w ⟨rfl | ⟨ch, rfl⟩, h⟩ <;> exact h
    · refine wpIn_skip ?_
      show (_ ∧ _) ∧ _
      refine ⟨⟨Kk, n18, S8, by omega, m8, seen.push e.born, 3, g8, Nat.le_refl _, fun x hx hc => ?_⟩, ?_⟩
      · rw [Array.contains_push, Bool.or_eq_true] at hc
        rcases hc with hc | hc
        · exact hno x hx hc
        · have : x.born = e.born := by simpa using hc
          have hxe : x = e := born_inj hst.2 hx (mem_left he).1 this
          rw [hxe, hek]; exact hf
      · have : w8.iterSeen r = seen.push e.born := by simp [World.iterSeen, g8]
        rw [this, hseen]
        exact left_shrinks es seen e he

end
end Go.Dx
