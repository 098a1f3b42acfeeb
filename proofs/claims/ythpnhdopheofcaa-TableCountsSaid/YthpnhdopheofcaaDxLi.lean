import Derived.Test.YthpnhdopheofcaaDxLw
set_option linter.unusedSimpArgs false
set_option linter.unusedVariables false
namespace Go.Dx
def fillW (ls : AV) (fr : Tr AV) (t : AV) : Parts → (AV → Prop) → Prop
 | .nil, k => k t
 | .cons off size x r, k => opW ls fr x fun v =>
  (v.cells.len = size ∧ off + size ≤ t.len ∧ v.cells.isList = true) ∧ fillW ls fr (AV.app (t.take off) (AV.app v.cells (t.drop (off + size)))) r k
theorem fillW_out {ls : AV} {fr : Tr AV} : ∀ {ps : Parts} {t : AV} {k : AV → Prop}, fillW ls fr t ps k → ∃ v, ps.fill ls fr t = some v ∧ k v := by
 intro ps
 induction ps with
 | nil => intro t k h; exact ⟨t, rfl, h⟩
 | cons off size x r ih =>
  intro t k h
  obtain ⟨v, h1, h2, h3⟩ := opW_out h
  obtain ⟨u, h4, h5⟩ := ih h3
  exact ⟨u, by simp only [Parts.fill, h1, Option.bind_eq_bind, Option.bind_some]; rw [if_pos h2]; exact h4, h5⟩
def listW (v : AV) (k : List AV → Prop) : Prop := v.isList = true ∧ k v.toL
def CI.wp (ls : AV) (fr : Tr AV) (M : Mem) (k : AV → Mem → Prop) : CI → Prop
 | .mov x => opW ls fr x fun v => k v M
 | .pick c a b => opW ls fr c fun c => boolW c fun c => (c = true → opW ls fr a fun v => k v M) ∧ (c = false → opW ls fr b fun v => k v M)
 | .alloc z n => z.len = n ∧ listW z fun cs => someW (M.row cs false) fun r => k (.ptr r.1 0) r.2
 | .box x => opW ls fr x fun v => listW v.cells fun cs => someW (M.row cs false) fun r => k (.ptr r.1 0) r.2
 | .build z ps => fillW ls fr z ps fun v => k (.agg v) M
 | .buildSlice z n len ps => fillW ls fr (repl z len) ps fun v => v.len = n ∧ listW v fun cs => someW (M.row cs false) fun r => k (.slice r.1 0 len len) r.2
 | .load1 a => opW ls fr a fun a => ptrW a fun p off => someW (M.cell p off) fun v => k v M
 | .loadN n a => opW ls fr a fun a => ptrW a fun p off => someW (M.cellsAt p off n) fun v => k (.agg (AV.ofL v)) M
 | .store n a x => opW ls fr a fun a => ptrW a fun p off => opW ls fr x fun x => listW x.cells fun cs => cs.length = n ∧ someW (M.store p off cs) fun M' => k undefA M'
 | .nilCheck x => opW ls fr x fun v => (match v with | .ptr _ _ => True | .func (.func _) _ _ => True | .iface _ _ => True | _ => False) ∧ k v M
 | .arith op c x y => opW ls fr x fun x => intW x fun j a => opW ls fr y fun y => intW y fun i b => (j = c ∧ i = c) ∧ someW (arithI op c a b) fun v => k v M
 | .shift op c x y => opW ls fr x fun x => intW x fun j a => opW ls fr y fun y => intW y fun _ b => j = c ∧ someW (shiftI op c a b) fun v => k v M
 | .cmp op x y => opW ls fr x fun x => intW x fun j a => opW ls fr y fun y => intW y fun i b => j = i ∧ someW (cmpI op a b) fun v => k (.bool v) M
 | .cat x y => opW ls fr x fun x => opW ls fr y fun y => strW x fun l n => strW y fun l' m => l + l' ≤ most ∧ k (.str (l + l') (n + m * 256 ^ l)) M
 | .scmp op x y => opW ls fr x fun x => opW ls fr y fun y => strW x fun l n => strW y fun l' m => someW (cmpS op l n l' m) fun b => k (.bool b) M
 | .eq e ne x y => opW ls fr x fun x => opW ls fr y fun y => someW (eqM M e x y) fun b => k (.bool (b != ne)) M
 | .neg x => opW ls fr x fun x => intW x fun c a => someW (arithI .sub c 0 a) fun v => k v M
 | .compl x => opW ls fr x fun x => intW x fun c a => someW (arithI .xor c (if (kindOf c).signed then -1 else (kindOf c).max) a) fun v => k v M
 | .not x => opW ls fr x fun x => boolW x fun b => k (.bool (!b)) M
 | .convInt c x => opW ls fr x fun x => intW x fun _ a => k (.int c ((kindOf c).wrap a)) M
 | .same x => opW ls fr x fun x => strW x fun l n => k (.str l n) M
 | .toBytes x => opW ls fr x fun x => strW x fun l n => someW (M.row (bytesFrom n 0 l).toL true) fun r => k (.oslice r.1 0 l 1) r.2
 | .ofBytes x => opW ls fr x fun v => someW (slLen v) fun l => someW (firstM M 1 l v) fun cs => someW (numOf (AV.ofL cs)) fun n => k (.str l n) M
 | .mkIface t x => opW ls fr x fun v => k (.iface t v) M
 | .mkFunc fn a b => opsW ls fr a fun a => opsW ls fr b fun b => k (.func fn a b) M
 | .mkMap => k (.map M.next) (M.new (.map .nil 0))
 | .makeSlice z size len cap => opW ls fr len fun l => natW l fun l => opW ls fr cap fun c => natW c fun c => (l ≤ c ∧ c ≤ most ∧ z.len = size) ∧ listW (repl z c) fun cs => someW (M.row cs false) fun r => k (.slice r.1 0 l c) r.2
 | .sliceStr x lo hi => opW ls fr x fun x => strW x fun len n => optW ls fr lo fun lo => optW ls fr hi fun hi => someW (sliceBounds len len lo hi none) fun b => k (.str (b.2.1 - b.1) (n / 256 ^ b.1 % 256 ^ (b.2.1 - b.1))) M
 | .sliceSl size x lo hi mx => optW ls fr lo fun lo => optW ls fr hi fun hi => optW ls fr mx fun mx => opW ls fr x fun x => someW (sliceM M size lo hi mx x) fun v => k v M
 | .sliceArr size n x lo hi mx => optW ls fr lo fun lo => optW ls fr hi fun hi => optW ls fr mx fun mx => opW ls fr x fun x => ptrW x fun p off =>
   someW (sliceBounds n n lo hi mx) fun b => k (if b.2.2 = b.1 then .slice p off 0 0 else .slice p (off + b.1 * size) (b.2.1 - b.1) (b.2.2 - b.1)) M
 | .fieldAddr off x => opW ls fr x fun x => ptrW x fun p o => k (.ptr p (o + off)) M
 | .field1 off x => opW ls fr x fun x => aggW x fun cs => someW (cs.nth off) fun v => k v M
 | .fieldN off n x => opW ls fr x fun x => aggW x fun cs => off + n ≤ cs.len ∧ k (.agg ((cs.drop off).take n)) M
 | .idxSl size x i => opW ls fr i fun i => natW i fun i => opW ls fr x fun x => someW (slAt x) fun s => i < s.2.2 ∧ k (.ptr s.1 (s.2.1 + i * size)) M
 | .idxArr size n x i => opW ls fr i fun i => natW i fun i => opW ls fr x fun x => ptrW x fun p off => i < n ∧ k (.ptr p (off + i * size)) M
 | .idxAgg1 n x i => opW ls fr i fun i => natW i fun i => opW ls fr x fun x => aggW x fun cs => i < n ∧ someW (cs.nth i) fun v => k v M
 | .idxAggN size n x i => opW ls fr i fun i => natW i fun i => opW ls fr x fun x => aggW x fun cs => (i < n ∧ i * size + size ≤ cs.len) ∧ k (.agg ((cs.drop (i * size)).take size)) M
 | .idxStr x i => opW ls fr i fun i => natW i fun i => opW ls fr x fun x => strW x fun len n => i < len ∧ k (.int 4 (byteAt n i)) M
 | .lookup e z ok m x => opW ls fr x fun key => opW ls fr m fun mv => okKey e key = true ∧ someW (mapLookM M e key mv) fun r => k (lookRes z ok r) M
 | .update e m x v => opW ls fr x fun key => opW ls fr v fun v => opW ls fr m fun mv => okKey e key = true ∧ someW (mapPutM M e key v mv) fun M' => k undefA M'
 | .assert t z ok x => opW ls fr x fun x =>
   match x with
   | .niliface => ok = true ∧ k (.tuple (.cons z (.cons (.bool false) .nil))) M
   | .iface u v => (u = t → k (if ok then .tuple (.cons v (.cons (.bool true) .nil)) else v) M) ∧ (u ≠ t → ok = true ∧ k (.tuple (.cons z (.cons (.bool false) .nil))) M)
   | _ => False
 | .extract j x => opW ls fr x fun x => tupW x fun vs => someW (vs.nth j) fun v => k v M
 | .append _ size x y => opW ls fr x fun x => opW ls fr y fun y => someW (lenOf y) fun n => someW (srcM M size n y) fun new => someW (appendM M size n new x) fun r => k r.1 r.2
 | .appendZ z size x y => opW ls fr y fun y => natW y fun n => (n ≤ most ∧ z.len = size) ∧ opW ls fr x fun x => listW (repl z n) fun new => someW (appendM M size n new x) fun r => k r.1 r.2
 | .clear z size x => opW ls fr x fun dst => someW (lenOf dst) fun n => z.len = size ∧ listW (repl z n) fun cs => someW (putAtM M dst cs) fun M' => k undefA M'
 | .lenStr x => opW ls fr x fun x => strW x fun l _ => k (.int 3 l) M
 | .lenSl x => opW ls fr x fun x => someW (slLen x) fun l => k (.int 3 l) M
 | .lenMap x => opW ls fr x fun x =>
   match x with
   | .nilmap => k (.int 3 0) M
   | .map p => (match M.get p with | some (.map es _) => k (.int 3 es.size) M | _ => False)
   | _ => False
 | .capSl x => opW ls fr x fun x => match x with | .nilslice => k (.int 3 0) M | .slice _ _ _ c => k (.int 3 c) M | _ => False
 | .lit v => k v M
 | .copy size x y => opW ls fr x fun dst => opW ls fr y fun src => someW (lenOf src) fun n => someW (lenOf dst) fun m => someW (srcM M size (Nat.min n m) src) fun cs => someW (putAtM M dst cs) fun M' => k (.int 3 (Nat.min n m)) M'
 | .delete e m x => opW ls fr x fun key => opW ls fr m fun mv => okKey e key = true ∧ someW (mapDelM M e key mv) fun M' => k undefA M'
 | .min x y => opW ls fr x fun x => intW x fun c a => opW ls fr y fun y => intW y fun _ b => k (.int c (if b < a then b else a)) M
 | .max x y => opW ls fr x fun x => intW x fun c a => opW ls fr y fun y => intW y fun _ b => k (.int c (if b > a then b else a)) M
 | .bld _ _ | .lookupP _ _ _ _ | .updateP _ _ _ | .idxByte _ _ | .callF _ _ | .callV _ _ | .panic _ | .defer _ _ => False
theorem slLen_lenOf {v : AV} {n : Nat} (h : slLen v = some n) : lenOf v = some n := by cases v <;> first | exact h | cases h
section
variable {ls : AV} {fr : Tr AV} {M : Mem} {k : AV → Mem → Prop}
def Does (ls : AV) (fr : Tr AV) (M : Mem) (ci : CI) (k : AV → Mem → Prop) : Prop := ∀ H, Sees H M → ∃ v H' M', ci.ev ls fr H = some (v, H') ∧ Sees H' M' ∧ k v M'
theorem Does.pure {ci : CI} {v : AV} (h : ∀ H, Sees H M → ci.ev ls fr H = some (v, H)) (hk : k v M) : Does ls fr M ci k := fun H hs => ⟨v, H, M, h H hs, hs, hk⟩
set_option maxHeartbeats 1000000 in
theorem wp_does (ci : CI) (h : ci.wp ls fr M k) : Does ls fr M ci k := by
 cases ci with
 | mov x => obtain ⟨v, h1, h2⟩ := opW_out h; exact .pure (fun H _ => by simp [CI.ev, h1]) h2
 | pick c a b =>
  obtain ⟨v, h1, h2⟩ := opW_out h
  obtain ⟨b', rfl, h3, h4⟩ := boolW_out h2
  cases b' with
  | true => obtain ⟨v, h5, h6⟩ := opW_out (h3 rfl); exact .pure (fun H _ => by simp [CI.ev, h1, h5]) h6
  | false => obtain ⟨v, h5, h6⟩ := opW_out (h4 rfl); exact .pure (fun H _ => by simp [CI.ev, h1, h5]) h6
 | alloc z n =>
  obtain ⟨h1, h2, h3⟩ := h
  obtain ⟨⟨p, M'⟩, h4, h5⟩ := someW_out h3
  intro H hs
  obtain ⟨H', e, hs'⟩ := hs.row h4
  rw [AV.ofL_toL _ h2] at e
  exact ⟨_, H', M', by simp [CI.ev, h1, e], hs', h5⟩
 | box x =>
  obtain ⟨v, h1, h2, h3⟩ := opW_out h
  obtain ⟨⟨p, M'⟩, h4, h5⟩ := someW_out h3
  intro H hs
  obtain ⟨H', e, hs'⟩ := hs.row h4
  rw [AV.ofL_toL _ h2] at e
  exact ⟨_, H', M', by simp [CI.ev, h1, e], hs', h5⟩
 | build z ps => obtain ⟨v, h1, h2⟩ := fillW_out h; exact .pure (fun H _ => by simp [CI.ev, h1]) h2
 | buildSlice z n len ps =>
  obtain ⟨v, h1, h2, h3, h4⟩ := fillW_out h
  obtain ⟨⟨p, M'⟩, h5, h6⟩ := someW_out h4
  intro H hs
  obtain ⟨H', e, hs'⟩ := hs.row h5
  rw [AV.ofL_toL _ h3] at e
  exact ⟨_, H', M', by simp [CI.ev, h1, h2, e], hs', h6⟩
 | load1 a =>
  obtain ⟨v, h1, h2⟩ := opW_out h
  obtain ⟨p, off, rfl, h3⟩ := ptrW_out h2
  obtain ⟨v, h4, h5⟩ := someW_out h3
  exact .pure (fun H hs => by simp [CI.ev, h1, hs.cell h4]) h5
 | loadN n a =>
  obtain ⟨v, h1, h2⟩ := opW_out h
  obtain ⟨p, off, rfl, h3⟩ := ptrW_out h2
  obtain ⟨v, h4, h5⟩ := someW_out h3
  exact .pure (fun H hs => by simp [CI.ev, h1, (hs.cellsAt h4).1]) h5
 | store n a x =>
  obtain ⟨v, h1, h2⟩ := opW_out h
  obtain ⟨p, off, rfl, h3⟩ := ptrW_out h2
  obtain ⟨x', h4, h5, h6, h7⟩ := opW_out h3
  obtain ⟨M', h8, h9⟩ := someW_out h7
  intro H hs
  obtain ⟨H', e, hs'⟩ := hs.store h8
  rw [AV.ofL_toL _ h5] at e
  rw [← AV.len_toL] at h6
  exact ⟨_, H', M', by simp [CI.ev, h1, h4, h6, e], hs', h9⟩
 | nilCheck x =>
  obtain ⟨v, h1, h2, h3⟩ := opW_out h
  refine .pure (fun H _ => ?_) h3
  simp only [CI.ev, h1, Option.bind_eq_bind, Option.bind_some]
  split at h2 <;> first | exact h2.elim | rfl
 | arith op c x y =>
  obtain ⟨v, h1, h2⟩ := opW_out h
  obtain ⟨j, a, rfl, h3⟩ := intW_out h2
  obtain ⟨v, h4, h5⟩ := opW_out h3
  obtain ⟨i, b, rfl, ⟨rfl, rfl⟩, h6⟩ := intW_out h5
  obtain ⟨v, h7, h8⟩ := someW_out h6
  exact .pure (fun H _ => by simp [CI.ev, h1, h4, asInt, h7]) h8
 | shift op c x y =>
  obtain ⟨v, h1, h2⟩ := opW_out h
  obtain ⟨j, a, rfl, h3⟩ := intW_out h2
  obtain ⟨v, h4, h5⟩ := opW_out h3
  obtain ⟨i, b, rfl, rfl, h6⟩ := intW_out h5
  obtain ⟨v, h7, h8⟩ := someW_out h6
  exact .pure (fun H _ => by simp [CI.ev, h1, h4, asInt, h7]) h8
 | cmp op x y =>
  obtain ⟨v, h1, h2⟩ := opW_out h
  obtain ⟨j, a, rfl, h3⟩ := intW_out h2
  obtain ⟨v, h4, h5⟩ := opW_out h3
  obtain ⟨i, b, rfl, rfl, h6⟩ := intW_out h5
  obtain ⟨v, h7, h8⟩ := someW_out h6
  exact .pure (fun H _ => by simp [CI.ev, h1, h4, asInt, h7]) h8
 | cat x y =>
  obtain ⟨v, h1, h2⟩ := opW_out h
  obtain ⟨u, h3, h4⟩ := opW_out h2
  obtain ⟨l, n, rfl, h5⟩ := strW_out h4
  obtain ⟨l', m, rfl, h6, h7⟩ := strW_out h5
  exact .pure (fun H _ => by simp [CI.ev, h1, h3, h6]) h7
 | scmp op x y =>
  obtain ⟨v, h1, h2⟩ := opW_out h
  obtain ⟨u, h3, h4⟩ := opW_out h2
  obtain ⟨l, n, rfl, h5⟩ := strW_out h4
  obtain ⟨l', m, rfl, h6⟩ := strW_out h5
  obtain ⟨b, h7, h8⟩ := someW_out h6
  exact .pure (fun H _ => by simp [CI.ev, h1, h3, h7]) h8
 | eq e ne x y =>
  obtain ⟨v, h1, h2⟩ := opW_out h
  obtain ⟨u, h3, h4⟩ := opW_out h2
  obtain ⟨b, h5, h6⟩ := someW_out h4
  exact .pure (fun H hs => by simp [CI.ev, h1, h3, hs.eq h5]) h6
 | neg x =>
  obtain ⟨v, h1, h2⟩ := opW_out h
  obtain ⟨j, a, rfl, h3⟩ := intW_out h2
  obtain ⟨v, h7, h8⟩ := someW_out h3
  exact .pure (fun H _ => by simp [CI.ev, h1, asInt, h7]) h8
 | compl x =>
  obtain ⟨v, h1, h2⟩ := opW_out h
  obtain ⟨j, a, rfl, h3⟩ := intW_out h2
  obtain ⟨v, h7, h8⟩ := someW_out h3
  exact .pure (fun H _ => by simp [CI.ev, h1, asInt, h7]) h8
 | not x =>
  obtain ⟨v, h1, h2⟩ := opW_out h
  obtain ⟨b, rfl, h3⟩ := boolW_out h2
  exact .pure (fun H _ => by simp [CI.ev, h1, asBool]) h3
 | convInt c x =>
  obtain ⟨v, h1, h2⟩ := opW_out h
  obtain ⟨j, a, rfl, h3⟩ := intW_out h2
  exact .pure (fun H _ => by simp [CI.ev, h1, asInt]) h3
 | same x =>
  obtain ⟨v, h1, h2⟩ := opW_out h
  obtain ⟨l, n, rfl, h3⟩ := strW_out h2
  exact .pure (fun H _ => by simp [CI.ev, h1]) h3
 | toBytes x =>
  obtain ⟨v, h1, h2⟩ := opW_out h
  obtain ⟨l, n, rfl, h3⟩ := strW_out h2
  obtain ⟨⟨p, M'⟩, h4, h5⟩ := someW_out h3
  intro H hs
  obtain ⟨H', e, hs'⟩ := hs.row h4
  rw [AV.ofL_toL _ (isList_bytesFrom n l 0)] at e
  exact ⟨_, H', M', by simp [CI.ev, h1, e], hs', h5⟩
 | ofBytes x =>
  obtain ⟨v, h1, h2⟩ := opW_out h
  obtain ⟨l, h3, h4⟩ := someW_out h2
  obtain ⟨cs, h5, h6⟩ := someW_out h4
  obtain ⟨n, h7, h8⟩ := someW_out h6
  exact .pure (fun H hs => by simp [CI.ev, h1, slLen_lenOf h3, hs.first h5, h7]) h8
 | mkIface t x => obtain ⟨v, h1, h2⟩ := opW_out h; exact .pure (fun H _ => by simp [CI.ev, h1]) h2
 | mkFunc fn a b =>
  obtain ⟨v, h1, h2⟩ := opsW_out h
  obtain ⟨u, h3, h4⟩ := opsW_out h2
  exact .pure (fun H _ => by simp [CI.ev, h1, h3]) h4
 | mkMap =>
  intro H hs
  refine ⟨_, _, _, rfl, hs.new (o := .map .nil 0) (b := .map .nil 0) ⟨rfl, rfl⟩, ?_⟩
  show k (.map H.next) _
  rw [hs.next]; exact h
 | makeSlice z size len cap =>
  obtain ⟨v, h1, h2⟩ := opW_out h
  obtain ⟨l, h3, h4⟩ := natW_out h2
  obtain ⟨u, h5, h6⟩ := opW_out h4
  obtain ⟨c, h7, h8, h9, h10⟩ := natW_out h6
  obtain ⟨⟨p, M'⟩, h11, h12⟩ := someW_out h10
  intro H hs
  obtain ⟨H', e, hs'⟩ := hs.row h11
  rw [AV.ofL_toL _ h9] at e
  exact ⟨_, H', M', by simp [CI.ev, h1, h3, h5, h7, h8, e], hs', h12⟩
 | sliceStr x lo hi =>
  obtain ⟨v, h1, h2⟩ := opW_out h
  obtain ⟨len, n, rfl, h3⟩ := strW_out h2
  obtain ⟨lo', h4, h5⟩ := optW_out h3
  obtain ⟨hi', h6, h7⟩ := optW_out h5
  obtain ⟨⟨l, h', m⟩, h8, h9⟩ := someW_out h7
  exact .pure (fun H _ => by simp [CI.ev, h1, h4, h6, h8]) h9
 | sliceSl size x lo hi mx =>
  simp only [CI.wp] at h
  obtain ⟨lo', h1, h2⟩ := optW_out h
  obtain ⟨hi', h3, h4⟩ := optW_out h2
  obtain ⟨mx', h5, h6⟩ := optW_out h4
  obtain ⟨v, h7, h8⟩ := opW_out h6
  obtain ⟨u, h9, h10⟩ := someW_out h8
  refine .pure (fun H hs => ?_) h10
  simp only [CI.ev, h1, h3, h5, h7, Option.bind_eq_bind, Option.bind_some]
  cases v with
  | nilslice =>
   obtain ⟨b, h11, h12⟩ := Option.map_eq_some_iff.1 h9
   cases h12
   simp [h11]
  | slice p off len cap =>
   obtain ⟨⟨l, h', m⟩, h11, h12⟩ := Option.map_eq_some_iff.1 h9
   cases h12
   simp [h11]
  | oslice p off len s =>
   simp only [sliceM] at h9
   simp only
   split at h9
   ·cases h9
   ·rw [if_neg (by assumption)]
    split at h9
    ·rename_i n hn
     obtain ⟨t, ht⟩ := hs.openSize hn
     rw [ht]
     simp only
     cases mx' with
     | none =>
      simp only at h9 ⊢
      obtain ⟨⟨l, h', m⟩, h11, h12⟩ := Option.map_eq_some_iff.1 h9
      cases h12
      simp [h11]
     | some m =>
      simp only at h9 ⊢
      split at h9
      ·rename_i l h' m' h11
       simp only [h11, Option.bind_some]
       split at h9
       ·rw [if_pos (by assumption)]
        split at h9
        ·cases h9
        ·rw [if_neg (by assumption)]; cases h9; rfl
       ·rw [if_neg (by assumption)]; cases h9; rfl
      ·cases h9
    ·cases h9
  | _ => cases h9
 | sliceArr size n x lo hi mx =>
  simp only [CI.wp] at h
  obtain ⟨lo', h1, h2⟩ := optW_out h
  obtain ⟨hi', h3, h4⟩ := optW_out h2
  obtain ⟨mx', h5, h6⟩ := optW_out h4
  obtain ⟨v, h7, h8⟩ := opW_out h6
  obtain ⟨p, off, rfl, h9⟩ := ptrW_out h8
  obtain ⟨⟨l, h', m⟩, h10, h11⟩ := someW_out h9
  exact .pure (fun H _ => by simp [CI.ev, h1, h3, h5, h7, h10]) h11
 | fieldAddr off x =>
  obtain ⟨v, h1, h2⟩ := opW_out h
  obtain ⟨p, o, rfl, h3⟩ := ptrW_out h2
  exact .pure (fun H _ => by simp [CI.ev, h1]) h3
 | field1 off x =>
  obtain ⟨v, h1, h2⟩ := opW_out h
  obtain ⟨cs, rfl, h3⟩ := aggW_out h2
  obtain ⟨u, h4, h5⟩ := someW_out h3
  exact .pure (fun H _ => by simp [CI.ev, h1, h4]) h5
 | fieldN off n x =>
  obtain ⟨v, h1, h2⟩ := opW_out h
  obtain ⟨cs, rfl, h3, h4⟩ := aggW_out h2
  exact .pure (fun H _ => by simp [CI.ev, h1, h3]) h4
 | idxSl size x i =>
  obtain ⟨v, h1, h2⟩ := opW_out h
  obtain ⟨n, h3, h4⟩ := natW_out h2
  obtain ⟨u, h5, h6⟩ := opW_out h4
  obtain ⟨⟨p, off, len⟩, h7, h8, h9⟩ := someW_out h6
  refine .pure (fun H _ => ?_) h9
  simp only [CI.ev, h1, h3, h5, Option.bind_eq_bind, Option.bind_some]
  cases u with
  | slice q o l c => cases h7; simp only; rw [if_pos h8]
  | oslice q o l c => cases h7; simp only; rw [if_pos h8]
  | _ => cases h7
 | idxArr size n x i =>
  obtain ⟨v, h1, h2⟩ := opW_out h
  obtain ⟨n, h3, h4⟩ := natW_out h2
  obtain ⟨u, h5, h6⟩ := opW_out h4
  obtain ⟨p, off, rfl, h7, h8⟩ := ptrW_out h6
  exact .pure (fun H _ => by simp [CI.ev, h1, h3, h5, h7]) h8
 | idxAgg1 n x i =>
  obtain ⟨v, h1, h2⟩ := opW_out h
  obtain ⟨n, h3, h4⟩ := natW_out h2
  obtain ⟨u, h5, h6⟩ := opW_out h4
  obtain ⟨cs, rfl, h7, h8⟩ := aggW_out h6
  obtain ⟨w, h9, h10⟩ := someW_out h8
  exact .pure (fun H _ => by simp [CI.ev, h1, h3, h5, h7, h9]) h10
 | idxAggN size n x i =>
  obtain ⟨v, h1, h2⟩ := opW_out h
  obtain ⟨n, h3, h4⟩ := natW_out h2
  obtain ⟨u, h5, h6⟩ := opW_out h4
  obtain ⟨cs, rfl, h7, h8⟩ := aggW_out h6
  exact .pure (fun H _ => by simp [CI.ev, h1, h3, h5, h7]) h8
 | idxStr x i =>
  obtain ⟨v, h1, h2⟩ := opW_out h
  obtain ⟨n, h3, h4⟩ := natW_out h2
  obtain ⟨u, h5, h6⟩ := opW_out h4
  obtain ⟨l, m, rfl, h7, h8⟩ := strW_out h6
  exact .pure (fun H _ => by simp [CI.ev, h1, h3, h5, h7]) h8
 | lookup e z ok m x =>
  obtain ⟨v, h1, h2⟩ := opW_out h
  obtain ⟨u, h3, h4, h5⟩ := opW_out h2
  obtain ⟨r, h6, h7⟩ := someW_out h5
  exact .pure (fun H hs => by simp [CI.ev, h1, h3, h4, hs.mapLook h6]) h7
 | update e m x v =>
  obtain ⟨v, h1, h2⟩ := opW_out h
  obtain ⟨u, h3, h4⟩ := opW_out h2
  obtain ⟨w, h5, h6, h7⟩ := opW_out h4
  obtain ⟨M', h8, h9⟩ := someW_out h7
  intro H hs
  obtain ⟨H', e', hs'⟩ := hs.mapPut h8
  exact ⟨_, H', M', by simp [CI.ev, h1, h3, h5, h6, e'], hs', h9⟩
 | assert t z ok x =>
  obtain ⟨v, h1, h2⟩ := opW_out h
  cases v with
  | niliface => obtain ⟨rfl, h3⟩ := h2; exact .pure (fun H _ => by simp [CI.ev, h1]) h3
  | iface u v =>
   obtain ⟨h3, h4⟩ := h2
   by_cases hu : u = t
   ·exact .pure (fun H _ => by simp [CI.ev, h1, hu]) (h3 hu)
   ·obtain ⟨rfl, h5⟩ := h4 hu
    exact .pure (fun H _ => by simp [CI.ev, h1, hu]) h5
  | _ => exact h2.elim
 | extract j x =>
  obtain ⟨v, h1, h2⟩ := opW_out h
  obtain ⟨cs, rfl, h3⟩ := tupW_out h2
  obtain ⟨u, h4, h5⟩ := someW_out h3
  exact .pure (fun H _ => by simp [CI.ev, h1, h4]) h5
 | append z size x y =>
  obtain ⟨v, h1, h2⟩ := opW_out h
  obtain ⟨u, h3, h4⟩ := opW_out h2
  obtain ⟨n, h5, h6⟩ := someW_out h4
  obtain ⟨new, h7, h8⟩ := someW_out h6
  obtain ⟨⟨r, M'⟩, h9, h10⟩ := someW_out h8
  intro H hs
  obtain ⟨H', e, hs'⟩ := hs.append h9
  exact ⟨_, H', M', by simp [CI.ev, h1, h3, appendA, h5, hs.src h7, e], hs', h10⟩
 | appendZ z size x y =>
  obtain ⟨v, h1, h2⟩ := opW_out h
  obtain ⟨n, h3, h4, h5⟩ := natW_out h2
  obtain ⟨u, h6, h7, h8⟩ := opW_out h5
  obtain ⟨⟨r, M'⟩, h9, h10⟩ := someW_out h8
  intro H hs
  obtain ⟨H', e, hs'⟩ := hs.append h9
  rw [AV.ofL_toL _ h7] at e
  exact ⟨_, H', M', by simp [CI.ev, h1, h3, h4, h6, e], hs', h10⟩
 | clear z size x =>
  obtain ⟨v, h1, h2⟩ := opW_out h
  obtain ⟨n, h3, h4, h5, h6⟩ := someW_out h2
  obtain ⟨M', h7, h8⟩ := someW_out h6
  intro H hs
  obtain ⟨H', e, hs'⟩ := hs.putAt h7
  rw [AV.ofL_toL _ h5] at e
  exact ⟨_, H', M', by simp [CI.ev, h1, h3, h4, e], hs', h8⟩
 | lenStr x =>
  obtain ⟨v, h1, h2⟩ := opW_out h
  obtain ⟨l, n, rfl, h3⟩ := strW_out h2
  exact .pure (fun H _ => by simp [CI.ev, h1]) h3
 | lenSl x =>
  obtain ⟨v, h1, h2⟩ := opW_out h
  obtain ⟨l, h3, h4⟩ := someW_out h2
  refine .pure (fun H _ => ?_) h4
  simp only [CI.ev, h1, Option.bind_eq_bind, Option.bind_some]
  cases v <;> first | (cases h3; rfl) | cases h3
 | lenMap x =>
  obtain ⟨v, h1, h2⟩ := opW_out h
  cases v with
  | nilmap => exact .pure (fun H _ => by simp [CI.ev, h1]) h2
  | map p =>
   simp only at h2
   split at h2
   ·rename_i es c hp
    refine .pure (fun H hs => ?_) h2
    obtain ⟨_, o, ho, hr⟩ := hs.at_ _ _ hp
    cases o with
    | map es' c' => obtain ⟨rfl, rfl⟩ := hr; simp [CI.ev, h1, ho]
    | _ => exact hr.elim
   ·exact h2.elim
  | _ => exact h2.elim
 | capSl x =>
  obtain ⟨v, h1, h2⟩ := opW_out h
  cases v with
  | nilslice => exact .pure (fun H _ => by simp [CI.ev, h1]) h2
  | slice p a b c => exact .pure (fun H _ => by simp [CI.ev, h1]) h2
  | _ => exact h2.elim
 | lit v => exact .pure (fun H _ => rfl) h
 | copy size x y =>
  obtain ⟨v, h1, h2⟩ := opW_out h
  obtain ⟨u, h3, h4⟩ := opW_out h2
  obtain ⟨n, h5, h6⟩ := someW_out h4
  obtain ⟨m, h7, h8⟩ := someW_out h6
  obtain ⟨cs, h9, h10⟩ := someW_out h8
  obtain ⟨M', h11, h12⟩ := someW_out h10
  intro H hs
  obtain ⟨H', e, hs'⟩ := hs.putAt h11
  exact ⟨_, H', M', by simp [CI.ev, h1, h3, h5, h7, hs.src h9, e], hs', h12⟩
 | delete e m x =>
  obtain ⟨v, h1, h2⟩ := opW_out h
  obtain ⟨u, h3, h4, h5⟩ := opW_out h2
  obtain ⟨M', h8, h9⟩ := someW_out h5
  intro H hs
  obtain ⟨H', e', hs'⟩ := hs.mapDel h8
  exact ⟨_, H', M', by simp [CI.ev, h1, h3, h4, e'], hs', h9⟩
 | min x y =>
  obtain ⟨v, h1, h2⟩ := opW_out h
  obtain ⟨j, a, rfl, h3⟩ := intW_out h2
  obtain ⟨v, h4, h5⟩ := opW_out h3
  obtain ⟨i, b, rfl, h6⟩ := intW_out h5
  exact .pure (fun H _ => by simp [CI.ev, h1, h4, asInt]) h6
 | max x y =>
  obtain ⟨v, h1, h2⟩ := opW_out h
  obtain ⟨j, a, rfl, h3⟩ := intW_out h2
  obtain ⟨v, h4, h5⟩ := opW_out h3
  obtain ⟨i, b, rfl, h6⟩ := intW_out h5
  exact .pure (fun H _ => by simp [CI.ev, h1, h4, asInt]) h6
 | lookupP z o m x => exact h.elim
 | updateP m x v => exact h.elim
 | idxByte x c => exact h.elim
 | bld t e => exact h.elim
 | callF f as => exact h.elim
 | callV f as => exact h.elim
 | panic x => exact h.elim
 | defer f x => exact h.elim
end
end Go.Dx
