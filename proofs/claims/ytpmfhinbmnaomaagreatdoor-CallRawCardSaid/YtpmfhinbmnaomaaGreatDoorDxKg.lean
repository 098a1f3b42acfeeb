/-
  The twin for the kernel, sixth part: which operation it is; regions.
-/
import Derived.Test.YtpmfhinbmnaomaaGreatDoorDxKe
import Derived.Test.YtpmfhinbmnaomaaGreatDoorDxLe
set_option linter.unusedSimpArgs false
set_option linter.unusedVariables false
set_option linter.unusedSectionVars false
namespace Go.Dx.K
open Go.Dx

noncomputable section
section
variable {β : Type} {tbl : Nat → Option CFunc}

/-- Chosen: an operation's closure that does what it should, or none. -/
def Chosen (tbl : Nat → Option CFunc) (ci : CI) (no : β) (K : OpF → β) (r : β) : Prop := r = no ∨ ∃ f, r = K f ∧ OpGood tbl ci f

theorem Chosen.o1 {x : Opd} {ci : CI} {no : β} {K : OpF → β} {G : OG → β} (h : ∀ g, OGood x g → Chosen tbl ci no K (G g)) : Chosen tbl ci no K (dOpd x no G) := by
  rcases dOpd_eq x no G with e | ⟨g, e, hg⟩ <;> rw [e]
  · exact .inl rfl
  · exact h g hg
theorem Chosen.os {xs : Opds} {ci : CI} {no : β} {K : OpF → β} {G : OG → β} (h : ∀ g, OsGood xs g → Chosen tbl ci no K (G g)) : Chosen tbl ci no K (dOpds xs no G) := by
  rcases dOpds_eq xs no G with e | ⟨g, e, hg⟩ <;> rw [e]
  · exact .inl rfl
  · exact h g hg
theorem Chosen.n1 {x : Option Opd} {ci : CI} {no : β} {K : OpF → β} {G : NG → β} (h : ∀ g, NGood x g → Chosen tbl ci no K (G g)) : Chosen tbl ci no K (dOptN x no G) := by
  rcases dOptN_eq x no G with e | ⟨g, e, hg⟩ <;> rw [e]
  · exact .inl rfl
  · exact h g hg
theorem Chosen.ps {ps : Parts} {ci : CI} {no : β} {K : OpF → β} {G : ((AV → Tri) → AV → Env → F → Tri) → β} (h : ∀ g, PsGood ps g → Chosen tbl ci no K (G g)) : Chosen tbl ci no K (dParts ps no G) := by
  rcases dParts_eq ps no G with e | ⟨g, e, hg⟩ <;> rw [e]
  · exact .inl rfl
  · exact h g hg
theorem fGet_h {k : AV → Tri} {F0 : F} {fr : Tr AV} {gh : (AV → Tri) → F → Tri} (hg : ∀ f k, gh k (mkF f) = k (f (Pos.num .h))) (hF : RF F0 fr) (h : gh k F0 = .yes) : k ((fr.get .h).getD .nil) = .yes := by
  obtain ⟨f, rfl, hf⟩ := hF
  rw [hg] at h
  by_cases hn : f (Pos.num .h) = .nil
  · rw [hf.2 .h hn]; rw [hn] at h; exact h
  · rw [hf.1 .h hn]; exact h
theorem Chosen.fh {ci : CI} {no : β} {K : OpF → β} {G : ((AV → Tri) → F → Tri) → β} (h : ∀ g, (∀ k (F0 : F) fr, RF F0 fr → g k F0 = .yes → k ((fr.get .h).getD .nil) = .yes) → Chosen tbl ci no K (G g)) : Chosen tbl ci no K (fGet .h no G) := by
  rcases fGet_eq .h no G with e | ⟨g, e, hg⟩ <;> rw [e]
  · exact .inl rfl
  · exact h g fun k F0 fr hF hk => fGet_h hg hF hk
theorem Chosen.of {ci : CI} {no : β} {K : OpF → β} {f : OpF} (h : OpGood tbl ci f) : Chosen tbl ci no K (K f) := .inr ⟨f, rfl, h⟩

def allocSel (z : AV) (n : Nat) (no : β) (K : OpF → β) : β := Bool.rec (motive := fun _ => β) no (Option.rec (motive := fun _ => β) no (fun tr => K (opAlloc tr n)) (treeOf z)) (Nat.beq (lenR z) n)
theorem allocSel_eq (z : AV) (n : Nat) (no : β) (K : OpF → β) : Chosen tbl (.alloc z n) no K (allocSel z n no K) := by
  have h := good_alloc (tbl := tbl) z n
  unfold dAlloc at h
  unfold allocSel
  cases hb : Nat.beq (lenR z) n with
  | false => exact .inl rfl
  | true =>
    rw [hb] at h
    cases ht : treeOf z with
    | none => exact .inl rfl
    | some tr => rw [ht] at h; exact .of h
def storeSel (n : Nat) (gx gy : OG) (K : OpF → β) : β := Nat.rec (motive := fun _ => β) (K (opStore 0 gx gy)) (fun m _ => Nat.rec (motive := fun _ => β) (K (opStore1 gx gy)) (fun _ _ => K (opStore n gx gy)) m) n
theorem storeSel_eq {x y : Opd} (n : Nat) {gx gy : OG} (hx : OGood x gx) (hy : OGood y gy) (no : β) (K : OpF → β) : Chosen tbl (.store n x y) no K (storeSel n gx gy K) := by
  rcases n with _ | (_ | n)
  · exact .of (good_store 0 hx hy)
  · exact .of (good_store1 hx hy)
  · exact .of (good_store _ hx hy)
def arithSel (op : BinOp) (c : Nat) (gx gy : OG) (K : OpF → β) : β :=
  Bool.rec (motive := fun _ => β) (Bool.rec (motive := fun _ => β) (K (opArith op c gx gy)) (K (opSub gx gy)) (andB (isSub op) (Nat.beq c 3))) (K (opAdd gx gy)) (andB (isAdd op) (Nat.beq c 3))
theorem arithSel_eq {x y : Opd} (op : BinOp) (c : Nat) {gx gy : OG} (hx : OGood x gx) (hy : OGood y gy) (no : β) (K : OpF → β) : Chosen tbl (.arith op c x y) no K (arithSel op c gx gy K) := by
  have h := good_dArith (tbl := tbl) op c hx hy
  unfold dArith at h
  unfold arithSel
  cases h1 : andB (isAdd op) (Nat.beq c 3) with
  | true => rw [h1] at h; exact .of h
  | false =>
    rw [h1] at h
    cases h2 : andB (isSub op) (Nat.beq c 3) with
    | true => rw [h2] at h; exact .of h
    | false => rw [h2] at h; exact .of h
def cmpSel (op : BinOp) (gx gy : OG) (no : β) (K : OpF → β) : β := match op with
  | .eql => K (opCmp eqI gx gy)
  | .neq => K (opCmp (fun a b => notB (eqI a b)) gx gy)
  | .lss => K (opCmpO ltI sLss gx gy)
  | .leq => K (opCmpO leI sLeq gx gy)
  | .gtr => K (opCmpO (fun a b => ltI b a) sGtr gx gy)
  | .geq => K (opCmpO (fun a b => leI b a) sGeq gx gy)
  | _ => no
theorem cmpSel_eq {x y : Opd} (op : BinOp) {gx gy : OG} (hx : OGood x gx) (hy : OGood y gy) (no : β) (K : OpF → β) : Chosen tbl (.cmp op x y) no K (cmpSel op gx gy no K) := by
  have h := good_dCmp (tbl := tbl) op hx hy
  cases op <;> first | exact .of h | exact .inl rfl
def scmpSel (op : BinOp) (gx gy : OG) (K : OpF → β) : β := match op with
  | .eql => K (opSeq false gx gy)
  | .neq => K (opSeq true gx gy)
  | op => K (opScmp op gx gy)
theorem scmpSel_eq {x y : Opd} (op : BinOp) {gx gy : OG} (hx : OGood x gx) (hy : OGood y gy) (no : β) (K : OpF → β) : Chosen tbl (.scmp op x y) no K (scmpSel op gx gy K) := by
  have h := good_dScmp (tbl := tbl) op hx hy
  cases op <;> exact .of h

/-- Which operation. -/
def dCI (ci : CI) (no : β) (K : OpF → β) : β := match ci with
  | .mov x => dOpd x no fun g => K (opMov g)
  | .pick c a b => dOpd c no fun gc => dOpd a no fun ga => dOpd b no fun gb => K (opPick gc ga gb)
  | .alloc z n => allocSel z n no K
  | .bld t e => K (opBld t e)
  | .box x => dOpd x no fun g => K (opBox g)
  | .build z ps => dParts ps no fun g => K (opBuild z g)
  | .buildSlice z n len ps => dParts ps no fun g => K (opBuildSl (repl z len) n len g)
  | .load1 x => dOpd x no fun g => K (opLoad1 g)
  | .loadN n x => dOpd x no fun g => K (opLoadN n g)
  | .store n a x => dOpd a no fun ga => dOpd x no fun gx => storeSel n ga gx K
  | .nilCheck x => dOpd x no fun g => K (opNilCheck g)
  | .arith op c x y => dOpd x no fun gx => dOpd y no fun gy => arithSel op c gx gy K
  | .shift op c x y => dOpd x no fun gx => dOpd y no fun gy => K (opShift op c gx gy)
  | .cmp op x y => dOpd x no fun gx => dOpd y no fun gy => cmpSel op gx gy no K
  | .cat x y => dOpd x no fun gx => dOpd y no fun gy => K (opCat gx gy)
  | .scmp op x y => dOpd x no fun gx => dOpd y no fun gy => scmpSel op gx gy K
  | .eq k ne x y => dOpd x no fun gx => dOpd y no fun gy => K (opEq k ne gx gy)
  | .neg x => dOpd x no fun g => K (opNeg g)
  | .compl x => dOpd x no fun g => K (opCompl g)
  | .not x => dOpd x no fun g => K (opNot g)
  | .convInt c x => dOpd x no fun g => K (opConv c g)
  | .same x => dOpd x no fun g => K (opSame g)
  | .toBytes x => dOpd x no fun g => K (opToBytes g)
  | .ofBytes x => dOpd x no fun g => K (opOfBytes g)
  | .mkIface t x => dOpd x no fun g => K (opMkIface t g)
  | .mkFunc fn a b => dOpds a no fun ga => dOpds b no fun gb => K (opMkFunc fn ga gb)
  | .mkMap => K opMkMap
  | .makeSlice z size l c => dOpd l no fun gl => dOpd c no fun gc => K (opMakeSl z size gl gc)
  | .sliceStr x lo hi => dOpd x no fun g => dOptN lo no fun gl => dOptN hi no fun gh => K (opSliceStr g gl gh)
  | .sliceSl size x lo hi mx => dOpd x no fun g => dOptN lo no fun gl => dOptN hi no fun gh => dOptN mx no fun gm => K (opSliceSl size g gl gh gm)
  | .sliceArr size n x lo hi mx => dOpd x no fun g => dOptN lo no fun gl => dOptN hi no fun gh => dOptN mx no fun gm => K (opSliceArr size n g gl gh gm)
  | .fieldAddr off x => dOpd x no fun g => K (opFieldAddr off g)
  | .field1 off x => dOpd x no fun g => K (opField1 off g)
  | .fieldN off n x => dOpd x no fun g => K (opFieldN off n g)
  | .idxSl size x i => dOpd x no fun gx => dOpd i no fun gi => K (opIdxSl size gx gi)
  | .idxArr size n x i => dOpd x no fun gx => dOpd i no fun gi => K (opIdxArr size n gx gi)
  | .idxAgg1 n x i => dOpd x no fun gx => dOpd i no fun gi => K (opIdxAgg1 n gx gi)
  | .idxAggN size n x i => dOpd x no fun gx => dOpd i no fun gi => K (opIdxAggN size n gx gi)
  | .idxStr x i => dOpd x no fun gx => dOpd i no fun gi => K (opIdxStr gx gi)
  | .lookup k z false m x => dOpd m no fun gm => dOpd x no fun gx => K (opLookup k z gm gx)
  | .lookup k z true m x => dOpd m no fun gm => dOpd x no fun gx => K (opLookupOk k z gm gx)
  | .update k m x v => dOpd m no fun gm => dOpd x no fun gx => dOpd v no fun gv => K (opUpdate k gm gx gv)
  | .assert t _ false x => dOpd x no fun g => K (opAssert t g)
  | .assert t z true x => dOpd x no fun g => K (opAssertOk t z g)
  | .extract j x => dOpd x no fun g => K (opExtract j g)
  | .append _ size x y => dOpd x no fun gx => dOpd y no fun gy => K (opAppend size gx gy)
  | .appendZ z size x y => dOpd x no fun gx => dOpd y no fun gy => K (opAppendZ z size gx gy)
  | .clear z size x => dOpd x no fun g => K (opClear z size g)
  | .lenStr x => dOpd x no fun g => K (opLenStr g)
  | .lenSl x => dOpd x no fun g => K (opLenSl g)
  | .lenMap x => dOpd x no fun g => K (opLenMap g)
  | .capSl x => dOpd x no fun g => K (opCapSl g)
  | .lit v => K (opLit v)
  | .copy size x y => dOpd x no fun gx => dOpd y no fun gy => K (opCopy size gx gy)
  | .delete k m x => dOpd m no fun gm => dOpd x no fun gx => K (opDelete k gm gx)
  | .min x y => dOpd x no fun gx => dOpd y no fun gy => K (opMin gx gy)
  | .max x y => dOpd x no fun gx => dOpd y no fun gy => K (opMax gx gy)
  | .callF f as => dOpds as no fun g => K (opCallF f g)
  | .callV x as => dOpd x no fun gx => dOpds as no fun g => K (opCallV gx g)
  | .panic x => dOpd x no fun g => K (opPanic g)
  | .lookupP z ok m x => dOpd m no fun gm => dOpd x no fun gx => K (opLookupP z ok gm gx)
  | .updateP m x v => dOpd m no fun gm => dOpd x no fun gx => dOpd v no fun gv => K (opUpdateP gm gx gv)
  | .idxByte x c => dOpd x no fun gx => dOpd c no fun gc => K (opIdxByte gx gc)
  | .defer x as => dOpd x no fun gx => dOpds as no fun g => fGet .h no fun gh => K (opDefer gx g gh)

theorem dCI_eq (ci : CI) (no : β) (K : OpF → β) : Chosen tbl ci no K (dCI ci no K) := by
  unfold dCI
  split
  · exact .o1 fun g hg => .of (good_mov hg)
  · exact .o1 fun g hg => .o1 fun g2 hg2 => .o1 fun g3 hg3 => .of (good_pick hg hg2 hg3)
  · exact allocSel_eq _ _ _ _
  · exact .of (good_bld _ _)
  · exact .o1 fun g hg => .of (good_box hg)
  · exact .ps fun g hg => .of (good_build _ hg)
  · exact .ps fun g hg => .of (good_buildSl _ _ _ hg)
  · exact .o1 fun g hg => .of (good_load1 hg)
  · exact .o1 fun g hg => .of (good_loadN _ hg)
  · exact .o1 fun g hg => .o1 fun g2 hg2 => storeSel_eq _ hg hg2 _ _
  · exact .o1 fun g hg => .of (good_nilCheck hg)
  · exact .o1 fun g hg => .o1 fun g2 hg2 => arithSel_eq _ _ hg hg2 _ _
  · exact .o1 fun g hg => .o1 fun g2 hg2 => .of (good_shift _ _ hg hg2)
  · exact .o1 fun g hg => .o1 fun g2 hg2 => cmpSel_eq _ hg hg2 _ _
  · exact .o1 fun g hg => .o1 fun g2 hg2 => .of (good_cat hg hg2)
  · exact .o1 fun g hg => .o1 fun g2 hg2 => scmpSel_eq _ hg hg2 _ _
  · exact .o1 fun g hg => .o1 fun g2 hg2 => .of (good_eq _ _ hg hg2)
  · exact .o1 fun g hg => .of (good_neg hg)
  · exact .o1 fun g hg => .of (good_compl hg)
  · exact .o1 fun g hg => .of (good_not hg)
  · exact .o1 fun g hg => .of (good_conv _ hg)
  · exact .o1 fun g hg => .of (good_same hg)
  · exact .o1 fun g hg => .of (good_toBytes hg)
  · exact .o1 fun g hg => .of (good_ofBytes hg)
  · exact .o1 fun g hg => .of (good_mkIface _ hg)
  · exact .os fun g hg => .os fun g2 hg2 => .of (good_mkFunc _ hg hg2)
  · exact .of good_mkMap
  · exact .o1 fun g hg => .o1 fun g2 hg2 => .of (good_makeSl _ _ hg hg2)
  · exact .o1 fun g hg => .n1 fun g2 hg2 => .n1 fun g3 hg3 => .of (good_sliceStr hg hg2 hg3)
  · exact .o1 fun g hg => .n1 fun g2 hg2 => .n1 fun g3 hg3 => .n1 fun g4 hg4 => .of (good_sliceSl _ hg hg2 hg3 hg4)
  · exact .o1 fun g hg => .n1 fun g2 hg2 => .n1 fun g3 hg3 => .n1 fun g4 hg4 => .of (good_sliceArr _ _ hg hg2 hg3 hg4)
  · exact .o1 fun g hg => .of (good_fieldAddr _ hg)
  · exact .o1 fun g hg => .of (good_field1 _ hg)
  · exact .o1 fun g hg => .of (good_fieldN _ _ hg)
  · exact .o1 fun g hg => .o1 fun g2 hg2 => .of (good_idxSl _ hg hg2)
  · exact .o1 fun g hg => .o1 fun g2 hg2 => .of (good_idxArr _ _ hg hg2)
  · exact .o1 fun g hg => .o1 fun g2 hg2 => .of (good_idxAgg1 _ hg hg2)
  · exact .o1 fun g hg => .o1 fun g2 hg2 => .of (good_idxAggN _ _ hg hg2)
  · exact .o1 fun g hg => .o1 fun g2 hg2 => .of (good_idxStr hg hg2)
  · exact .o1 fun g hg => .o1 fun g2 hg2 => .of (good_lookup _ _ hg hg2)
  · exact .o1 fun g hg => .o1 fun g2 hg2 => .of (good_lookupOk _ _ hg hg2)
  · exact .o1 fun g hg => .o1 fun g2 hg2 => .o1 fun g3 hg3 => .of (good_update _ hg hg2 hg3)
  · exact .o1 fun g hg => .of (good_assert _ _ hg)
  · exact .o1 fun g hg => .of (good_assertOk _ _ hg)
  · exact .o1 fun g hg => .of (good_extract _ hg)
  · exact .o1 fun g hg => .o1 fun g2 hg2 => .of (good_append _ _ hg hg2)
  · exact .o1 fun g hg => .o1 fun g2 hg2 => .of (good_appendZ _ _ hg hg2)
  · exact .o1 fun g hg => .of (good_clear _ _ hg)
  · exact .o1 fun g hg => .of (good_lenStr hg)
  · exact .o1 fun g hg => .of (good_lenSl hg)
  · exact .o1 fun g hg => .of (good_lenMap hg)
  · exact .o1 fun g hg => .of (good_capSl hg)
  · exact .of (good_lit _)
  · exact .o1 fun g hg => .o1 fun g2 hg2 => .of (good_copy _ hg hg2)
  · exact .o1 fun g hg => .o1 fun g2 hg2 => .of (good_delete _ hg hg2)
  · exact .o1 fun g hg => .o1 fun g2 hg2 => .of (good_min hg hg2)
  · exact .o1 fun g hg => .o1 fun g2 hg2 => .of (good_max hg hg2)
  · exact .os fun g hg => .of (good_callF _ hg)
  · exact .o1 fun g hg => .os fun g2 hg2 => .of (good_callV hg hg2)
  · exact .o1 fun g hg => .of (good_panic hg)
  · exact .o1 fun g hg => .o1 fun g2 hg2 => .of (good_lookupP _ _ hg hg2)
  · exact .o1 fun g hg => .o1 fun g2 hg2 => .o1 fun g3 hg3 => .of (good_updateP hg hg2 hg3)
  · exact .o1 fun g hg => .o1 fun g2 hg2 => .of (good_idxByte hg hg2)
  · exact .o1 fun g hg => .os fun g2 hg2 => .fh fun gh hh => .of (good_defer hg hg2 hh)
end

/-! Plain regions. -/
abbrev RF5 := Call → Env → F → (F → KH) → (AV → F → KH) → KH
inductive RBox where
  | mk (f : RF5)
def runR (b : RBox) : RF5 := RBox.rec (motive := fun _ => RF5) (fun f => f) b
def noR : RBox := .mk fun _ _ _ _ _ _ _ => .no

def WG (dst : Option Pos) (s : AV → (F → Tri) → F → Tri) : Prop := ∀ v k (F0 : F) fr, RF F0 fr → s v k F0 = .yes → ∃ F1, RF F1 (setDst fr dst v) ∧ k F1 = .yes
def dDst {β : Type} (dst : Option Pos) (no : β) (K : (AV → (F → Tri) → F → Tri) → β) : β := Option.rec (motive := fun _ => β) (K fun _ k f => k f) (fun p => fSet p no K) dst
theorem dDst_eq {β : Type} (dst : Option Pos) (no : β) (K : (AV → (F → Tri) → F → Tri) → β) : dDst dst no K = no ∨ ∃ s, dDst dst no K = K s ∧ WG dst s := by
  cases dst with
  | none => exact .inr ⟨_, rfl, fun v k F0 fr hF h => ⟨F0, hF, h⟩⟩
  | some p =>
    rcases fSet_eq p no K with h | ⟨s, h, hs⟩
    · exact .inl h
    · refine .inr ⟨s, h, fun v k F0 fr hF hk => ?_⟩
      obtain ⟨f, rfl, hf⟩ := hF
      rw [hs] at hk
      obtain ⟨hn, hk⟩ := chk_yes hk
      exact ⟨_, RF.set hf hn, hk⟩

/-- What a guard's value asks: to be done, or not. -/
def wantK (b : Bool) (y n : Tri) (v : AV) : Tri :=
  AV.rec (motive := fun _ => Tri) (fun _ _ _ => .no) .no (fun c => ifB c (ifB b y n) (ifB b n y)) (fun _ _ => .no) (fun _ _ => .no) (fun _ _ => .no) .no (fun _ _ _ _ => .no) (fun _ _ _ _ => .no) .no (fun _ => .no) .no (fun _ _ _ _ _ => .no) .no (fun _ _ _ => .no) .no (fun _ _ => .no) (fun vs _ => onList n (fun _ _ => .no) vs) .no (fun _ _ _ _ => .no) (fun _ => .no) v
def GG (g : Option (Nat × Bool)) (w : Env → Tri → Tri → Tri) : Prop := ∀ e y n, w e y n = .yes → (wanted e.toAV g = some true ∧ y = .yes) ∨ (wanted e.toAV g = some false ∧ n = .yes)
def dGuard {β : Type} (g : Option (Nat × Bool)) (K0 : β) (K : (Env → Tri → Tri → Tri) → β) : β :=
  Option.rec (motive := fun _ => β) K0 (fun q => Prod.rec (motive := fun _ => β) (fun j b => eGet j fun r => K fun e y n => r (wantK b y n) e) q) g
theorem dGuard_eq {β : Type} (g : Option (Nat × Bool)) (K0 : β) (K : (Env → Tri → Tri → Tri) → β) : (g = none ∧ dGuard g K0 K = K0) ∨ ∃ w, dGuard g K0 K = K w ∧ GG g w := by
  cases g with
  | none => exact .inl ⟨rfl, rfl⟩
  | some q =>
    obtain ⟨j, b⟩ := q
    obtain ⟨r, h1, h2⟩ := eGet_eq j (fun r => K fun e y n => r (wantK b y n) e)
    refine .inr ⟨_, h1, fun e y n h => ?_⟩
    rw [h2] at h
    obtain ⟨v, h3, h4⟩ := oT_yes h
    simp only [wanted, h3]
    cases v with
    | bool c => cases c <;> cases b <;> first | exact .inl ⟨rfl, h4⟩ | exact .inr ⟨rfl, h4⟩
    | tuple vs =>
      rcases onList_yes (show onList n (fun _ _ => .no) vs = .yes from h4) with ⟨rfl, h5⟩ | ⟨a, r, _, h5⟩
      · exact .inr ⟨rfl, h5⟩
      · cases h5
    | _ => cases h4

theorem dDst_ind {β : Type} {dst : Option Pos} {no : β} {K : (AV → (F → Tri) → F → Tri) → β} {Q : β → Prop} (h0 : Q no) (h : ∀ s, WG dst s → Q (K s)) : Q (dDst dst no K) := by
  rcases dDst_eq dst no K with e | ⟨s, e, hs⟩ <;> rw [e]
  · exact h0
  · exact h s hs
theorem dCI_ind {β : Type} (tbl : Nat → Option CFunc) {ci : CI} {no : β} {K : OpF → β} {Q : β → Prop} (h0 : Q no) (h : ∀ f, OpGood tbl ci f → Q (K f)) : Q (dCI ci no K) := by
  rcases dCI_eq (tbl := tbl) ci no K with e | ⟨s, e, hs⟩ <;> rw [e]
  · exact h0
  · exact h s hs
theorem dGuard_ind {β : Type} {g : Option (Nat × Bool)} {K0 : β} {K : (Env → Tri → Tri → Tri) → β} {Q : β → Prop} (h0 : (∀ e : Env, wanted e.toAV g = some true) → Q K0) (h : ∀ w, GG g w → Q (K w)) : Q (dGuard g K0 K) := by
  rcases dGuard_eq g K0 K with ⟨e0, e⟩ | ⟨s, e, hs⟩ <;> rw [e]
  · exact h0 fun _ => by rw [e0]; rfl
  · exact h s hs

def consR (g : Option (Nat × Bool)) (ci : CI) (dst : Option Pos) (ih : RBox) : RBox :=
  dDst dst noR fun sd => dCI ci noR fun op => dGuard g
      (.mk fun call e f kn kp => op call e f (fun v nx t => sd v (fun f => runR ih call (.cons v e) f kn kp nx t) f) (fun v => kp v f))
      (fun w => .mk fun call e f kn kp nx t => w e (op call e f (fun v nx t => sd v (fun f => runR ih call (.cons v e) f kn kp nx t) f) (fun v => kp v f) nx t) (sd undefA (fun f => runR ih call (.cons undefA e) f kn kp nx t) f))
def denR (cs : CIs) : RBox := CIs.rec (motive := fun _ => RBox) (.mk fun _ _ f kn _ => kn f) (fun g ci dst _ ih => consR g ci dst ih) cs
theorem denR_cons (g : Option (Nat × Bool)) (ci : CI) (dst : Option Pos) (r : CIs) : denR (.cons g ci dst r) = consR g ci dst (denR r) := rfl

/-- How a plain region's end goes on. -/
def OkR (kn : F → KH) (kp : AV → F → KH) : RO → Prop
  | .ok _ fr H => ∃ F1, RF F1 fr ∧ kn F1 H.next H.t = .yes
  | .pan v fr H => ∃ F1, RF F1 fr ∧ kp v F1 H.next H.t = .yes

theorem yldN_inv {tbl : Nat → Option CFunc} (n : Nat) : YldInv (yldN tbl n) := doYield_inv (run_inv n)
theorem denR_ok {tbl : Nat → Option CFunc} {call : Call} (hc : CallGood tbl (fun n => yldN tbl n) call) (cs : CIs) : ∀ (e : Env) (F0 : F) fr (kn : F → KH) (kp : AV → F → KH) nx t, RF F0 fr → RInv ⟨nx, t⟩ → runR (denR cs) call e F0 kn kp nx t = .yes → ∃ n o, cs.run (callN tbl n) (yldN tbl n) e.toAV fr ⟨nx, t⟩ = some o ∧ OkR kn kp o := by
  induction cs with
  | nil => intro e F0 fr kn kp nx t hF _ h; exact ⟨0, _, rfl, F0, hF, h⟩
  | cons g ci dst r ih =>
    intro e F0 fr kn kp nx t hF hI
    rw [denR_cons]
    unfold consR
    refine dDst_ind (no := noR) (Q := fun b => runR b call e F0 kn kp nx t = .yes → ∃ n o, (CIs.cons g ci dst r).run (callN tbl n) (yldN tbl n) e.toAV fr ⟨nx, t⟩ = some o ∧ OkR kn kp o) (fun h => by cases (show Tri.no = .yes from h)) fun sd hsd => ?_
    refine dCI_ind tbl (no := noR) (Q := fun b => runR b call e F0 kn kp nx t = .yes → ∃ n o, (CIs.cons g ci dst r).run (callN tbl n) (yldN tbl n) e.toAV fr ⟨nx, t⟩ = some o ∧ OkR kn kp o) (fun h => by cases (show Tri.no = .yes from h)) fun op hop => ?_
    -- what is done
    have doit : wanted e.toAV g = some true → op call e F0 (fun v nx t => sd v (fun f => runR (denR r) call (.cons v e) f kn kp nx t) F0) (fun v => kp v F0) nx t = .yes → ∃ n o, (CIs.cons g ci dst r).run (callN tbl n) (yldN tbl n) e.toAV fr ⟨nx, t⟩ = some o ∧ OkR kn kp o := by
      intro hw ho
      obtain ⟨n1, c, H1, h3, h4⟩ := hop _ call hc e F0 fr _ _ nx t hF hI ho
      have hI1 := CI.run_inv (callN_inv n1) (yldN_inv n1) hI h3
      cases c with
      | ret v =>
        obtain ⟨F1, h5, h6⟩ := hsd v _ F0 fr hF h4
        obtain ⟨n2, o, h7, h8⟩ := ih (.cons v e) F1 _ kn kp H1.next H1.t h5 hI1 h6
        refine ⟨max n1 n2, o, ?_, h8⟩
        simp only [CIs.run, hw]
        rw [CI.run_le (callN_le (Nat.le_max_left n1 n2)) (yldN_le (Nat.le_max_left n1 n2)) h3]
        exact CIs.run_le (callN_le (Nat.le_max_right n1 n2)) (yldN_le (Nat.le_max_right n1 n2)) h7
      | pan v =>
        refine ⟨n1, .pan v fr H1, ?_, F0, hF, h4⟩
        simp only [CIs.run, hw, h3]
    refine dGuard_ind (Q := fun b => runR b call e F0 kn kp nx t = .yes → ∃ n o, (CIs.cons g ci dst r).run (callN tbl n) (yldN tbl n) e.toAV fr ⟨nx, t⟩ = some o ∧ OkR kn kp o) (fun hw h => doit (hw e) h) fun w hw h => ?_
    rcases hw e _ _ h with ⟨h4, h5⟩ | ⟨h4, h5⟩
    · exact doit h4 h5
    · obtain ⟨F1, h6, h7⟩ := hsd undefA _ F0 fr hF h5
      obtain ⟨n2, o, h8, h9⟩ := ih (.cons undefA e) F1 _ kn kp nx t h6 hI h7
      refine ⟨n2, o, ?_, h9⟩
      simp only [CIs.run, h4]
      exact h8

/-! Regions that draw. -/
abbrev DF := Call → List Pos → List Heap → Env → F → (F → KH) → (AV → F → KH) → KH
inductive DBox where
  | mk (f : DF)
def runD (b : DBox) : DF := DBox.rec (motive := fun _ => DF) (fun f => f) b
def noD : DBox := .mk fun _ _ _ _ _ _ _ _ _ => .no

/-- Calls alone. -/
def callX (call : Call) : Call := fun f => Nat.rec (motive := fun _ => AV → KV → KV → KH) (fun _ _ _ _ _ => .no) (fun f _ => call (Nat.succ f)) f
theorem callX_ok {tbl : Nat → Option CFunc} {Y : YT} {call : Call} (hc : CallGood tbl Y call) : CallGood tbl (fun _ => noY) (callX call) :=
  ⟨fun f args kr kp nx t hI h => hc.fn f args kr kp nx t hI h, fun p args kr kp nx t _ h => (by cases (show Tri.no = .yes from h)), fun f as m kr kp nx t _ h => by cases (show Tri.no = .yes from h)⟩
theorem run_light {ci : CI} (hl : ci.light = true) : ∀ call yld ls fr H, CI.run call yld ls fr H ci = (ci.ev ls fr H).map fun r => (.ret r.1, r.2) := by
  intro call yld ls fr H
  cases ci <;> first | (simp only [CI.run]; cases CI.ev ls fr H _ <;> rfl) | (simp [CI.light] at hl)
theorem run_float {ci : CI} (hl : ci.float = true) : ∀ call yld ls fr H, CI.run call yld ls fr H ci = (ci.ev ls fr H).map fun r => (.ret r.1, r.2) := by
  intro call yld ls fr H
  cases ci <;> first | (simp only [CI.run]; cases CI.ev ls fr H _ <;> rfl) | (simp [CI.float] at hl)
theorem run_ret {ci : CI} (h : ∀ call yld ls fr H, CI.run call yld ls fr H ci = (ci.ev ls fr H).map fun r => (.ret r.1, r.2)) {call : Nat → AV → Heap → Option (CR × Heap)} {yld : Pos → AV → Heap → Option (CR × Heap)} {ls : AV} {fr : Tr AV} {H H' : Heap} {v : AV} (hr : CI.run call yld ls fr H ci = some (.ret v, H')) : ci.ev ls fr H = some (v, H') := by
  rw [h] at hr
  cases he : ci.ev ls fr H with
  | none => rw [he] at hr; cases hr
  | some q => rw [he] at hr; cases hr; rfl

/-- Are two values the same? -/
def sameK (u v : AV) (k : Tri) : Tri := ifB (AV.beq u v) k .no
theorem sameK_yes {u v : AV} {k : Tri} (h : sameK u v k = .yes) : AV.beq u v = true ∧ k = .yes := ifB_yes h
def backK (op : OpF) (call : Call) (e : Env) (f : F) (v : AV) (bk : Nat) (k : Tri) (Hs : List Heap) : Tri :=
  Nat.rec (motive := fun _ => List Heap → Tri) (fun _ => k) (fun _ ih Hs => List.rec (motive := fun _ => Tri) .no (fun H Hs _ => Heap.rec (motive := fun _ => Tri) (fun nx t => op (callX call) e f (fun u _ _ => sameK u v (ih Hs)) (fun _ _ _ => .no) nx t) H) Hs) bk Hs
theorem backK_yes {tbl : Nat → Option CFunc} {ci : CI} {op : OpF} {Y : YT} {call : Call} (hc : CallGood tbl Y call) (hop : OpGood tbl ci op) (hl : ci.light = true) {e : Env} {F0 : F} {fr : Tr AV} (hF : RF F0 fr) {v : AV} {k : Tri} :
    ∀ {bk : Nat} {Hs : List Heap}, (∀ H ∈ Hs, RInv H) → backK op call e F0 v bk k Hs = .yes → backs ci e.toAV fr v bk Hs = true ∧ k = .yes := by
  intro bk
  induction bk with
  | zero => intro Hs _ h; exact ⟨rfl, h⟩
  | succ bk ih =>
    intro Hs hIs h
    cases Hs with
    | nil => cases h
    | cons H Hs =>
      have h : op (callX call) e F0 (fun u _ _ => sameK u v (backK op call e F0 v bk k Hs)) (fun _ _ _ => .no) H.next H.t = .yes := h
      obtain ⟨n, r, H', h1, h2⟩ := hop _ (callX call) (callX_ok hc) e F0 fr _ _ H.next H.t hF (hIs H (by simp)) h
      cases r with
      | ret u =>
        obtain ⟨h3, h4⟩ := sameK_yes h2
        obtain ⟨h5, h6⟩ := ih (fun G hG => hIs G (by simp [hG])) h4
        refine ⟨?_, h6⟩
        have he : ci.ev e.toAV fr H = some (u, H') := run_ret (run_light hl) h1
        simp only [backs, he, h3, h5, Bool.and_self]
      | pan u => cases h2

def dKd {β : Type} (k : Kd) (a : β) (b : Nat → β) (c : β) : β := Kd.rec (motive := fun _ => β) a b c k

theorem dKd_heavy {β : Type} (a : β) (b : Nat → β) (c : β) : dKd .heavy a b c = a := rfl
theorem dKd_light {β : Type} (n : Nat) (a : β) (b : Nat → β) (c : β) : dKd (.light n) a b c = b n := rfl
theorem dKd_float {β : Type} (a : β) (b : Nat → β) (c : β) : dKd .float a b c = c := rfl

/-! What is left behind one that threw. 'c': so many heavy ones that are not done. -/
abbrev TF := Call → List Pos → List Heap → Env → F → Tri → KH
inductive TBox where
  | mk (f : TF)
def runT (b : TBox) : TF := TBox.rec (motive := fun _ => TF) (fun f => f) b
def noT : TBox := .mk fun _ _ _ _ _ _ _ _ => .no
/-- Nothing, or something. -/
def ifNil (z : Tri) (k : Tri) (v : AV) : Tri :=
  AV.rec (motive := fun _ => Tri) (fun _ _ _ => k) k (fun _ => k) (fun _ _ => k) (fun _ _ => k) (fun _ _ => k) k (fun _ _ _ _ => k) (fun _ _ _ _ => k) k (fun _ => k) k (fun _ _ _ _ _ => k) k (fun _ _ _ => k) k (fun _ _ => k) (fun _ _ => k) z (fun _ _ _ _ => k) (fun _ => k) v
theorem ifNil_yes {z k : Tri} {v : AV} (h : ifNil z k v = .yes) : (v = .nil ∧ z = .yes) ∨ (v ≠ .nil ∧ k = .yes) := by
  cases v <;> first | exact .inr ⟨AV.noConfusion, h⟩ | exact .inl ⟨rfl, h⟩
def freeT (dst : Option Pos) (b : TBox) : TBox :=
  Option.rec (motive := fun _ => TBox) b (fun p => fGet p noT fun g => .mk fun call R Hs e f y nx t => g (fun v => ifNil (runT b call R Hs e f y nx t) .no v) f) dst
theorem freeT_ok {dst : Option Pos} {b : TBox} {call : Call} {R : List Pos} {Hs : List Heap} {e : Env} {F0 : F} {fr : Tr AV} {y : Tri} {nx : Pos} {t : Tr AO} (hF : RF F0 fr) (h : runT (freeT dst b) call R Hs e F0 y nx t = .yes) :
    slotFree fr dst = true ∧ runT b call R Hs e F0 y nx t = .yes := by
  cases dst with
  | none => exact ⟨rfl, h⟩
  | some p =>
    have h : runT (fGet p noT fun g => .mk fun call R Hs e f y nx t => g (fun v => ifNil (runT b call R Hs e f y nx t) .no v) f) call R Hs e F0 y nx t = .yes := h
    rcases fGet_eq p noT (fun g => TBox.mk fun call R Hs e f y nx t => g (fun v => ifNil (runT b call R Hs e f y nx t) .no v) f) with e1 | ⟨g, e1, hg⟩
    · rw [e1] at h; cases (show Tri.no = .yes from h)
    · rw [e1] at h
      obtain ⟨f, rfl, hf⟩ := hF
      have h : g (fun v => ifNil (runT b call R Hs e (mkF f) y nx t) .no v) (mkF f) = .yes := h
      rw [hg] at h
      rcases ifNil_yes h with ⟨hn, h⟩ | ⟨_, h⟩
      · exact ⟨by simp only [slotFree, hf.2 _ hn, Option.isNone_none], h⟩
      · cases h
def badT (dst : Option Pos) (hv : Bool) (ih : TBox) : TBox := dDst dst noT fun sd => Bool.rec (motive := fun _ => TBox)
  (.mk fun call R Hs e f y nx t => sd undefA (fun f => runT ih call R Hs (.cons undefA e) f y nx t) f)
  (.mk fun call R Hs e f y nx t => sd undefA (fun f => runT ih call R (⟨nx, t⟩ :: Hs) (.cons undefA e) f y nx t) f) hv
def apartT (g : Option (Nat × Bool)) (ci : CI) (dst : Option Pos) (bk : Nat) (ih : TBox) : TBox := dDst dst noT fun sd => dCI ci noT fun op => dGuard g
  (.mk fun call R Hs e f y nx t => op (callX call) e f (fun v _ _ => backK op call e f v bk (sd v (fun f => runT ih call R Hs (.cons v e) f y nx t) f) Hs) (fun _ _ _ => .no) nx t)
  (fun w => .mk fun call R Hs e f y nx t => w e (op (callX call) e f (fun v _ _ => backK op call e f v bk (sd v (fun f => runT ih call R Hs (.cons v e) f y nx t) f) Hs) (fun _ _ _ => .no) nx t) (sd undefA (fun f => runT ih call R Hs (.cons undefA e) f y nx t) f))
def floatT (g : Option (Nat × Bool)) (ci : CI) (dst : Option Pos) (ih : TBox) : TBox := dDst dst noT fun sd => dCI ci noT fun op => dGuard g
  (.mk fun call R Hs e f y nx t => List.rec (motive := fun _ => Tri) .no (fun p R _ => op (callX call) e f (fun v _ t' => getT p (fun o => setT p o (fun t => sd v (fun f => runT ih call R (putAll p o Hs) (.cons v e) f y nx t) f) t) t') (fun _ _ _ => .no) p .leaf) R)
  (fun w => .mk fun call R Hs e f y nx t => w e (List.rec (motive := fun _ => Tri) .no (fun p R _ => op (callX call) e f (fun v _ t' => getT p (fun o => setT p o (fun t => sd v (fun f => runT ih call R (putAll p o Hs) (.cons v e) f y nx t) f) t) t') (fun _ _ _ => .no) p .leaf) R) (sd undefA (fun f => runT ih call R Hs (.cons undefA e) f y nx t) f))
def consT (g : Option (Nat × Bool)) (ci : CI) (dst : Option Pos) (k : Kd) (ih : Nat → TBox) (c : Nat) : TBox :=
  dKd k (badT dst true (ih (Nat.succ c)))
    (fun bk => Bool.rec (motive := fun _ => TBox)
      (Bool.rec (motive := fun _ => TBox) noT (freeT dst (apartT g ci dst bk (ih c))) (CI.light ci))
      (badT dst false (ih c)) (Nat.ble (Nat.succ bk) c))
    (Bool.rec (motive := fun _ => TBox) noT (freeT dst (floatT g ci dst (ih c))) (CI.float ci))
def denT (ds : DIs) : Nat → TBox := DIs.rec (motive := fun _ => Nat → TBox) (fun _ => .mk fun _ _ _ _ _ y _ _ => y) (fun g ci dst k _ ih c => consT g ci dst k ih c) ds
theorem denT_cons (g : Option (Nat × Bool)) (ci : CI) (dst : Option Pos) (k : Kd) (r : DIs) (c : Nat) : denT (.cons g ci dst k r) c = consT g ci dst k (denT r) c := rfl

theorem badT_ok {dst : Option Pos} {hv : Bool} {ih : TBox} {call : Call} {R : List Pos} {Hs : List Heap} {e : Env} {F0 : F} {fr : Tr AV} {y : Tri} {nx : Pos} {t : Tr AO} (hF : RF F0 fr) (h : runT (badT dst hv ih) call R Hs e F0 y nx t = .yes) :
    ∃ F1, RF F1 (setDst fr dst undefA) ∧ runT ih call R (if hv then ⟨nx, t⟩ :: Hs else Hs) (.cons undefA e) F1 y nx t = .yes := by
  revert h
  unfold badT
  refine dDst_ind (no := noT) (Q := fun b => runT b call R Hs e F0 y nx t = .yes → ∃ F1, RF F1 (setDst fr dst undefA) ∧ runT ih call R (if hv then ⟨nx, t⟩ :: Hs else Hs) (.cons undefA e) F1 y nx t = .yes) (fun h => by cases (show Tri.no = .yes from h)) fun sd hsd h => ?_
  cases hv with
  | true => exact hsd undefA _ F0 fr hF h
  | false => exact hsd undefA _ F0 fr hF h

theorem denT_ok {tbl : Nat → Option CFunc} {call : Call} {Y : YT} (hc : CallGood tbl Y call) (ds : DIs) : ∀ (c : Nat) (R : List Pos) (Hs : List Heap) (e : Env) (F0 : F) fr (y : Tri) nx t, RF F0 fr → RInv ⟨nx, t⟩ → (∀ H ∈ Hs, RInv H) → runT (denT ds c) call R Hs e F0 y nx t = .yes → ds.tail c R Hs e.toAV fr ⟨nx, t⟩ = true ∧ y = .yes := by
  induction ds with
  | nil => intro c R Hs e F0 fr y nx t _ _ _ h; exact ⟨rfl, h⟩
  | cons g ci dst k r ih =>
    intro c R Hs e F0 fr y nx t hF hI hIs h
    rw [denT_cons] at h
    unfold consT at h
    cases k with
    | heavy =>
      rw [dKd_heavy] at h
      obtain ⟨F1, h1, h2⟩ := badT_ok hF h
      have := ih (Nat.succ c) R (⟨nx, t⟩ :: Hs) (.cons undefA e) F1 _ y nx t h1 hI (fun G hG => by simp only [List.mem_cons] at hG; rcases hG with rfl | hG; exact hI; exact hIs G hG) h2
      exact ⟨by simp only [DIs.tail]; exact this.1, this.2⟩
    | light bk =>
      rw [dKd_light] at h
      cases hb : Nat.ble (Nat.succ bk) c with
      | true =>
        rw [hb] at h
        obtain ⟨F1, h1, h2⟩ := badT_ok hF (show runT (badT dst false (denT r c)) call R Hs e F0 y nx t = .yes from h)
        have := ih c R Hs (.cons undefA e) F1 _ y nx t h1 hI hIs h2
        have hlt : bk < c := Nat.le_of_ble_eq_true hb
        exact ⟨by simp only [DIs.tail, if_pos hlt]; exact this.1, this.2⟩
      | false =>
        rw [hb] at h
        have hlt : ¬bk < c := fun h => by rw [Nat.ble_eq_true_of_le h] at hb; cases hb
        have h : runT (Bool.rec (motive := fun _ => TBox) noT (freeT dst (apartT g ci dst bk (denT r c))) (CI.light ci)) call R Hs e F0 y nx t = .yes := h
        cases hl : CI.light ci with
        | false => rw [hl] at h; cases (show Tri.no = .yes from h)
        | true =>
          rw [hl] at h
          obtain ⟨hs, h⟩ := freeT_ok hF (show runT (freeT dst (apartT g ci dst bk (denT r c))) call R Hs e F0 y nx t = .yes from h)
          simp only [DIs.tail, if_neg hlt, hs, Bool.true_and]
          revert h
          unfold apartT
          refine dDst_ind (no := noT) (Q := fun b => runT b call R Hs e F0 y nx t = .yes → _) (fun h => by cases (show Tri.no = .yes from h)) fun sd hsd => ?_
          refine dCI_ind tbl (no := noT) (Q := fun b => runT b call R Hs e F0 y nx t = .yes → _) (fun h => by cases (show Tri.no = .yes from h)) fun op hop => ?_
          have doit : wanted e.toAV g = some true → op (callX call) e F0 (fun v _ _ => backK op call e F0 v bk (sd v (fun f => runT (denT r c) call R Hs (.cons v e) f y nx t) F0) Hs) (fun _ _ _ => .no) nx t = .yes →
              (match wanted e.toAV g with
                | some false => DIs.tail r c R Hs (.cons undefA e.toAV) (setDst fr dst undefA) ⟨nx, t⟩
                | some true =>
                  match ci.ev e.toAV fr ⟨nx, t⟩ with
                  | some (v, _) => backs ci e.toAV fr v bk Hs && DIs.tail r c R Hs (.cons v e.toAV) (setDst fr dst v) ⟨nx, t⟩
                  | none => false
                | none => false) = true ∧ y = .yes := by
            intro hw ho
            obtain ⟨n1, cr, H1, h3, h4⟩ := hop _ (callX call) (callX_ok hc) e F0 fr _ _ nx t hF hI ho
            cases cr with
            | pan v => cases h4
            | ret v =>
              have hev : ci.ev e.toAV fr ⟨nx, t⟩ = some (v, H1) := run_ret (run_light hl) h3
              obtain ⟨h7, h8⟩ := backK_yes hc hop hl hF hIs h4
              obtain ⟨F1, h5, h6⟩ := hsd v _ F0 fr hF h8
              have := ih c R Hs (.cons v e) F1 _ y nx t h5 hI hIs h6
              rw [hw]
              simp only [hev, h7, Bool.true_and]
              exact this
          refine dGuard_ind (Q := fun b => runT b call R Hs e F0 y nx t = .yes → _) (fun hw h => doit (hw e) h) fun w hw h => ?_
          rcases hw e _ _ h with ⟨h4, h5⟩ | ⟨h4, h5⟩
          · exact doit h4 h5
          · obtain ⟨F1, h6, h7⟩ := hsd undefA _ F0 fr hF h5
            have := ih c R Hs (.cons undefA e) F1 _ y nx t h6 hI hIs h7
            rw [h4]
            exact this
    | float =>
      rw [dKd_float] at h
      cases hl : CI.float ci with
      | false => rw [hl] at h; cases (show Tri.no = .yes from h)
      | true =>
        rw [hl] at h
        obtain ⟨hs, h⟩ := freeT_ok hF (show runT (freeT dst (floatT g ci dst (denT r c))) call R Hs e F0 y nx t = .yes from h)
        simp only [DIs.tail, hs, Bool.true_and]
        revert h
        unfold floatT
        refine dDst_ind (no := noT) (Q := fun b => runT b call R Hs e F0 y nx t = .yes → _) (fun h => by cases (show Tri.no = .yes from h)) fun sd hsd => ?_
        refine dCI_ind tbl (no := noT) (Q := fun b => runT b call R Hs e F0 y nx t = .yes → _) (fun h => by cases (show Tri.no = .yes from h)) fun op hop => ?_
        have doit : wanted e.toAV g = some true → (List.rec (motive := fun _ => Tri) .no (fun p R _ => op (callX call) e F0 (fun v _ t' => getT p (fun o => setT p o (fun t => sd v (fun f => runT (denT r c) call R (putAll p o Hs) (.cons v e) f y nx t) F0) t) t') (fun _ _ _ => .no) p .leaf) R : Tri) = .yes →
            (match wanted e.toAV g with
              | some false => DIs.tail r c R Hs (.cons undefA e.toAV) (setDst fr dst undefA) ⟨nx, t⟩
              | some true =>
                match (generalizing := false) R with
                | [] => false
                | p :: R =>
                  match ci.ev e.toAV fr ⟨p, .leaf⟩ with
                  | some (v, F) =>
                    match F.get p with
                    | some o => DIs.tail r c R (putAll p o Hs) (.cons v e.toAV) (setDst fr dst v) (Heap.put ⟨nx, t⟩ p o)
                    | none => false
                  | none => false
              | none => false) = true ∧ y = .yes := by
          intro hw ho
          cases R with
          | nil => cases ho
          | cons p R =>
            have ho : op (callX call) e F0 (fun v _ t' => getT p (fun o => setT p o (fun t => sd v (fun f => runT (denT r c) call R (putAll p o Hs) (.cons v e) f y nx t) F0) t) t') (fun _ _ _ => .no) p .leaf = .yes := ho
            obtain ⟨n1, cr, H1, h3, h4⟩ := hop _ (callX call) (callX_ok hc) e F0 fr _ _ p .leaf hF (RInv.empty p) ho
            cases cr with
            | pan v => cases h4
            | ret v =>
              have h5 : ci.ev e.toAV fr ⟨p, .leaf⟩ = some (v, H1) := run_ret (run_float hl) h3
              have h4 : getT p (fun o => setT p o (fun t => sd v (fun f => runT (denT r c) call R (putAll p o Hs) (.cons v e) f y nx t) F0) t) H1.t = .yes := h4
              rw [getT_eq] at h4
              obtain ⟨o, h6, h7⟩ := oT_yes h4
              rw [setT_eq] at h7
              obtain ⟨F1, h8, h9⟩ := hsd v _ F0 fr hF h7
              have hob : ∀ t n op, o = .cells t n op → Row t n := fun t n op e => by subst e; exact CI.ev_inv (RInv.empty p) h5 p t n op h6
              have hput : ∀ (L : List Heap), (∀ H ∈ L, RInv H) → ∀ H ∈ putAll p o L, RInv H := by
                intro L
                induction L with
                | nil => intro _ H hH; simp [putAll] at hH
                | cons G L ih =>
                  intro hL H hH
                  simp only [putAll, List.mem_cons] at hH
                  rcases hH with rfl | hH
                  · exact RInv.put (hL G (by simp)) hob
                  · exact ih (fun H hH => hL H (by simp [hH])) H hH
              have := ih c R (putAll p o Hs) (.cons v e) F1 _ y nx _ h8 (RInv.put (H := ⟨nx, t⟩) hI hob) (hput Hs hIs) h9
              have h6 : H1.get p = some o := h6
              rw [hw]
              simp only [h5, h6]
              exact this
        refine dGuard_ind (Q := fun b => runT b call R Hs e F0 y nx t = .yes → _) (fun hw h => doit (hw e) h) fun w hw h => ?_
        rcases hw e _ _ h with ⟨h4, h5⟩ | ⟨h4, h5⟩
        · exact doit h4 h5
        · obtain ⟨F1, h6, h7⟩ := hsd undefA _ F0 fr hF h5
          have := ih c R Hs (.cons undefA e) F1 _ y nx t h6 hI hIs h7
          rw [h4]
          exact this

/-- One of an order; 'm': so many elder states there are. -/
def consD (g : Option (Nat × Bool)) (ci : CI) (dst : Option Pos) (k : Kd) (r : DIs) (ih : Nat → DBox) (m : Nat) : DBox :=
  dDst dst noD fun sd => dCI ci noD fun op =>
      dKd k
        -- heavy
        (dGuard g (.mk fun call R Hs e f kn kp nx t => op (callX call) e f (fun v nx' t' => sd v (fun f => runD (ih (Nat.succ m)) call R (⟨nx, t⟩ :: Hs) (.cons v e) f kn kp nx' t') f) (fun v nx' t' => sd undefA (fun g => runT (denT r 1) call R (⟨nx, t⟩ :: Hs) (.cons undefA e) g (kp v f nx' t') nx t) f) nx t)
          fun w => .mk fun call R Hs e f kn kp nx t => w e (op (callX call) e f (fun v nx' t' => sd v (fun f => runD (ih (Nat.succ m)) call R (⟨nx, t⟩ :: Hs) (.cons v e) f kn kp nx' t') f) (fun v nx' t' => sd undefA (fun g => runT (denT r 1) call R (⟨nx, t⟩ :: Hs) (.cons undefA e) g (kp v f nx' t') nx t) f) nx t) (sd undefA (fun f => runD (ih (Nat.succ m)) call R (⟨nx, t⟩ :: Hs) (.cons undefA e) f kn kp nx t) f))
        -- light
        (fun bk => Bool.rec (motive := fun _ => DBox) noD
          (Bool.rec (motive := fun _ => DBox)
            (dGuard g (.mk fun call R Hs e f kn kp nx t => op (callX call) e f (fun v _ _ => backK op call e f v bk (sd v (fun f => runD (ih m) call R Hs (.cons v e) f kn kp nx t) f) Hs) (fun _ _ _ => .no) nx t)
              fun w => .mk fun call R Hs e f kn kp nx t => w e (op (callX call) e f (fun v _ _ => backK op call e f v bk (sd v (fun f => runD (ih m) call R Hs (.cons v e) f kn kp nx t) f) Hs) (fun _ _ _ => .no) nx t) (sd undefA (fun f => runD (ih m) call R Hs (.cons undefA e) f kn kp nx t) f))
            (dGuard g (.mk fun call R Hs e f kn kp nx t => op (callX call) e f (fun v _ _ => sd v (fun f => runD (ih m) call R Hs (.cons v e) f kn kp nx t) f) (fun _ _ _ => .no) nx t)
              fun w => .mk fun call R Hs e f kn kp nx t => w e (op (callX call) e f (fun v _ _ => sd v (fun f => runD (ih m) call R Hs (.cons v e) f kn kp nx t) f) (fun _ _ _ => .no) nx t) (sd undefA (fun f => runD (ih m) call R Hs (.cons undefA e) f kn kp nx t) f))
            (andB (CI.free ci) (Nat.ble bk m)))
          (CI.light ci))
        -- float
        (Bool.rec (motive := fun _ => DBox) noD
          (dGuard g (.mk fun call R Hs e f kn kp nx t => List.rec (motive := fun _ => Tri) .no (fun p R _ => op (callX call) e f (fun v _ t' => getT p (fun o => setT p o (fun t => sd v (fun f => runD (ih m) call R (putAll p o Hs) (.cons v e) f kn kp nx t) f) t) t') (fun _ _ _ => .no) p .leaf) R)
            fun w => .mk fun call R Hs e f kn kp nx t => w e (List.rec (motive := fun _ => Tri) .no (fun p R _ => op (callX call) e f (fun v _ t' => getT p (fun o => setT p o (fun t => sd v (fun f => runD (ih m) call R (putAll p o Hs) (.cons v e) f kn kp nx t) f) t) t') (fun _ _ _ => .no) p .leaf) R) (sd undefA (fun f => runD (ih m) call R Hs (.cons undefA e) f kn kp nx t) f))
          (CI.float ci))
def denD (ds : DIs) : Nat → DBox := DIs.rec (motive := fun _ => Nat → DBox) (fun _ => .mk fun _ _ _ _ f kn _ => kn f) (fun g ci dst k r ih m => consD g ci dst k r ih m) ds
theorem denD_cons (g : Option (Nat × Bool)) (ci : CI) (dst : Option Pos) (k : Kd) (r : DIs) (m : Nat) : denD (.cons g ci dst k r) m = consD g ci dst k r (denD r) m := rfl

/-- How a region that draws goes on behind its end. -/
def EndD (tbl : Nat → Option CFunc) (kn : F → KH) (kp : AV → F → KH) (R : List Pos) (Hs : List Heap) (ls : AV) (fr : Tr AV) (H : Heap) (ds : DIs) : Prop :=
  (∃ n fr' H' F1, ds.run (callN tbl n) R Hs ls fr H = some (fr', H') ∧ RF F1 fr' ∧ kn F1 H'.next H'.t = .yes) ∨
  ∃ n v fr' H' F1, ds.pan (callN tbl n) R Hs ls fr H = some (v, fr', H') ∧ RF F1 fr' ∧ kp v F1 H'.next H'.t = .yes
theorem EndD.step {tbl : Nat → Option CFunc} {kn : F → KH} {kp : AV → F → KH} {R R2 : List Pos} {Hs Hs2 : List Heap} {ls ls2 : AV} {fr fr2 : Tr AV} {H H2 : Heap} {ds ds2 : DIs} (n1 : Nat) (h : EndD tbl kn kp R2 Hs2 ls2 fr2 H2 ds2)
    (hr : ∀ n, n1 ≤ n → ds.run (callN tbl n) R Hs ls fr H = ds2.run (callN tbl n) R2 Hs2 ls2 fr2 H2) (hp : ∀ n, n1 ≤ n → ds.pan (callN tbl n) R Hs ls fr H = ds2.pan (callN tbl n) R2 Hs2 ls2 fr2 H2) : EndD tbl kn kp R Hs ls fr H ds := by
  rcases h with ⟨n, fr', H', F1, h1, h2⟩ | ⟨n, v, fr', H', F1, h1, h2⟩
  · exact .inl ⟨max n1 n, fr', H', F1, by rw [hr _ (Nat.le_max_left n1 n)]; exact DIs.run_le (callN_le (Nat.le_max_right n1 n)) h1, h2⟩
  · exact .inr ⟨max n1 n, v, fr', H', F1, by rw [hp _ (Nat.le_max_left n1 n)]; exact DIs.pan_le (callN_le (Nat.le_max_right n1 n)) h1, h2⟩

theorem denD_ok {tbl : Nat → Option CFunc} {call : Call} (hc : CallGood tbl (fun n => yldN tbl n) call) (ds : DIs) : ∀ (m : Nat) (R : List Pos) (Hs : List Heap) (e : Env) (F0 : F) fr (kn : F → KH) (kp : AV → F → KH) nx t, RF F0 fr → RInv ⟨nx, t⟩ → (∀ H ∈ Hs, RInv H) → m ≤ Hs.length → runD (denD ds m) call R Hs e F0 kn kp nx t = .yes →
    EndD tbl kn kp R Hs e.toAV fr ⟨nx, t⟩ (ds) := by
  induction ds with
  | nil => intro m R Hs e F0 fr kn kp nx t hF _ _ _ h; exact .inl ⟨0, _, _, F0, rfl, hF, h⟩
  | cons g ci dst k r ih =>
    intro m R Hs e F0 fr kn kp nx t hF hI hIs hm
    rw [denD_cons]
    unfold consD
    refine dDst_ind (no := noD) (Q := fun b => runD b call R Hs e F0 kn kp nx t = .yes → EndD tbl kn kp R Hs e.toAV fr ⟨nx, t⟩ (DIs.cons g ci dst k r)) (fun h => by cases (show Tri.no = .yes from h)) fun sd hsd => ?_
    refine dCI_ind tbl (no := noD) (Q := fun b => runD b call R Hs e F0 kn kp nx t = .yes → EndD tbl kn kp R Hs e.toAV fr ⟨nx, t⟩ (DIs.cons g ci dst k r)) (fun h => by cases (show Tri.no = .yes from h)) fun op hop => ?_
    -- what is not wanted
    have skip : ∀ m', m' ≤ (k.elder ⟨nx, t⟩ Hs).length → wanted e.toAV g = some false → sd undefA (fun f => runD (denD r m') call R (k.elder ⟨nx, t⟩ Hs) (.cons undefA e) f kn kp nx t) F0 = .yes →
        EndD tbl kn kp R Hs e.toAV fr ⟨nx, t⟩ (DIs.cons g ci dst k r) := by
      intro m' hm' hw h
      obtain ⟨F1, h1, h2⟩ := hsd undefA _ F0 fr hF h
      have hend := ih m' R _ (.cons undefA e) F1 _ kn kp nx t h1 hI (fun G hG => by cases k <;> simp only [Kd.elder, List.mem_cons] at hG <;> first | exact hIs G hG | (rcases hG with rfl | hG; exact hI; exact hIs G hG)) hm' h2
      exact hend.step 0 (fun n _ => by simp only [DIs.run, hw]; rfl) (fun n _ => by simp only [DIs.pan, hw]; rfl)
    cases k with
    | heavy =>
      have doit : wanted e.toAV g = some true → op (callX call) e F0 (fun v nx' t' => sd v (fun f => runD (denD r (Nat.succ m)) call R (⟨nx, t⟩ :: Hs) (.cons v e) f kn kp nx' t') F0) (fun v nx' t' => sd undefA (fun g => runT (denT r 1) call R (⟨nx, t⟩ :: Hs) (.cons undefA e) g (kp v F0 nx' t') nx t) F0) nx t = .yes →
          EndD tbl kn kp R Hs e.toAV fr ⟨nx, t⟩ (DIs.cons g ci dst .heavy r) := by
        intro hw ho
        obtain ⟨n1, c, H1, h3, h4⟩ := hop _ (callX call) (callX_ok hc) e F0 fr _ _ nx t hF hI ho
        cases c with
        | ret v =>
          obtain ⟨F1, h5, h6⟩ := hsd v _ F0 fr hF h4
          have hend := ih (Nat.succ m) R _ (.cons v e) F1 _ kn kp H1.next H1.t h5 (CI.run_inv (callN_inv n1) noY_inv hI h3) (fun G hG => by simp only [List.mem_cons] at hG; rcases hG with rfl | hG; exact hI; exact hIs G hG) (by simpa using hm) h6
          exact hend.step n1 (fun n hn => by simp only [DIs.run, hw]; rw [CI.run_le (callN_le hn) (fun _ _ _ _ h => h) h3]; rfl) (fun n hn => by simp only [DIs.pan, hw]; rw [CI.run_le (callN_le hn) (fun _ _ _ _ h => h) h3]; rfl)
        | pan v =>
          obtain ⟨F1, h5, h6⟩ := hsd undefA _ F0 fr hF (show sd undefA (fun g => runT (denT r 1) call R (⟨nx, t⟩ :: Hs) (.cons undefA e) g (kp v F0 H1.next H1.t) nx t) F0 = .yes from h4)
          obtain ⟨h7, h8⟩ := denT_ok hc r 1 R (⟨nx, t⟩ :: Hs) (.cons undefA e) F1 _ _ nx t h5 hI (fun G hG => by simp only [List.mem_cons] at hG; rcases hG with rfl | hG; exact hI; exact hIs G hG) h6
          refine .inr ⟨n1, v, fr, H1, F0, ?_, hF, h8⟩
          simp only [DIs.pan, hw, h3]
          rw [if_pos]
          exact h7
      rw [dKd_heavy]
      refine dGuard_ind (Q := fun b => runD b call R Hs e F0 kn kp nx t = .yes → EndD tbl kn kp R Hs e.toAV fr ⟨nx, t⟩ (DIs.cons g ci dst .heavy r)) ?_ ?_
      · exact fun hw h => doit (hw e) h
      intro w hw h
      rcases hw e _ _ h with ⟨h4, h5⟩ | ⟨h4, h5⟩
      · exact doit h4 h5
      · exact skip (Nat.succ m) (by simpa [Kd.elder] using hm) h4 h5
    | light bk =>
      rw [dKd_light]
      cases hl : CI.light ci with
      | false => intro h; cases h
      | true =>
        have evd : ∀ {kv : KV} {n1 c H1}, CI.run (callN tbl n1) noY e.toAV fr ⟨nx, t⟩ ci = some (c, H1) → resK kv (fun _ _ _ => .no) c H1 = .yes → ∃ v, ci.ev e.toAV fr ⟨nx, t⟩ = some (v, H1) ∧ kv v H1.next H1.t = .yes := by
          intro kv n1 c H1 h1 h2
          cases c with
          | pan v => cases h2
          | ret v =>
            refine ⟨v, ?_, h2⟩
            exact run_ret (run_light hl) h1
        have go : ∀ {v H1}, ci.ev e.toAV fr ⟨nx, t⟩ = some (v, H1) → wanted e.toAV g = some true → backs ci e.toAV fr v bk Hs = true → sd v (fun f => runD (denD r m) call R Hs (.cons v e) f kn kp nx t) F0 = .yes →
            EndD tbl kn kp R Hs e.toAV fr ⟨nx, t⟩ (DIs.cons g ci dst (.light bk) r) := by
          intro v H1 h1 hw hb h
          obtain ⟨F1, h5, h6⟩ := hsd v _ F0 fr hF h
          have hend := ih m R _ (.cons v e) F1 _ kn kp nx t h5 hI hIs hm h6
          exact hend.step 0 (fun n _ => by simp only [DIs.run, hw, h1, hb, if_true]; rfl) (fun n _ => by simp only [DIs.pan, hw, h1, hb, if_true]; rfl)
        cases hfree : andB (CI.free ci) (Nat.ble bk m) with
        | false =>
          have doit : wanted e.toAV g = some true → op (callX call) e F0 (fun v _ _ => backK op call e F0 v bk (sd v (fun f => runD (denD r m) call R Hs (.cons v e) f kn kp nx t) F0) Hs) (fun _ _ _ => .no) nx t = .yes →
              EndD tbl kn kp R Hs e.toAV fr ⟨nx, t⟩ (DIs.cons g ci dst (.light bk) r) := by
            intro hw ho
            obtain ⟨n1, c, H1, h3, h4⟩ := hop _ (callX call) (callX_ok hc) e F0 fr _ _ nx t hF hI ho
            obtain ⟨v, h5, h6⟩ := evd h3 h4
            obtain ⟨h7, h8⟩ := backK_yes hc hop hl hF hIs h6
            exact go h5 hw h7 h8
          refine dGuard_ind (Q := fun b => runD b call R Hs e F0 kn kp nx t = .yes → EndD tbl kn kp R Hs e.toAV fr ⟨nx, t⟩ (DIs.cons g ci dst (.light bk) r)) ?_ ?_
          · exact fun hw h => doit (hw e) h
          intro w hw h
          rcases hw e _ _ h with ⟨h4, h5⟩ | ⟨h4, h5⟩
          · exact doit h4 h5
          · exact skip m hm h4 h5
        | true =>
          rw [andB_eq, Bool.and_eq_true] at hfree
          have hbk : bk ≤ m := by simpa using hfree.2
          have doit : wanted e.toAV g = some true → op (callX call) e F0 (fun v _ _ => sd v (fun f => runD (denD r m) call R Hs (.cons v e) f kn kp nx t) F0) (fun _ _ _ => .no) nx t = .yes →
              EndD tbl kn kp R Hs e.toAV fr ⟨nx, t⟩ (DIs.cons g ci dst (.light bk) r) := by
            intro hw ho
            obtain ⟨n1, c, H1, h3, h4⟩ := hop _ (callX call) (callX_ok hc) e F0 fr _ _ nx t hF hI ho
            obtain ⟨v, h5, h6⟩ := evd h3 h4
            exact go h5 hw (back_free hfree.1 h5 (Nat.le_trans hbk hm)) h6
          refine dGuard_ind (Q := fun b => runD b call R Hs e F0 kn kp nx t = .yes → EndD tbl kn kp R Hs e.toAV fr ⟨nx, t⟩ (DIs.cons g ci dst (.light bk) r)) ?_ ?_
          · exact fun hw h => doit (hw e) h
          intro w hw h
          rcases hw e _ _ h with ⟨h4, h5⟩ | ⟨h4, h5⟩
          · exact doit h4 h5
          · exact skip m hm h4 h5
    | float =>
      rw [dKd_float]
      cases hl : CI.float ci with
      | false => intro h; cases h
      | true =>
        have doit : wanted e.toAV g = some true → (List.rec (motive := fun _ => Tri) .no (fun p R _ => op (callX call) e F0 (fun v _ t' => getT p (fun o => setT p o (fun t => sd v (fun f => runD (denD r m) call R (putAll p o Hs) (.cons v e) f kn kp nx t) F0) t) t') (fun _ _ _ => .no) p .leaf) R : Tri) = .yes →
            EndD tbl kn kp R Hs e.toAV fr ⟨nx, t⟩ (DIs.cons g ci dst .float r) := by
          intro hw ho
          cases R with
          | nil => cases ho
          | cons p R =>
            have ho : op (callX call) e F0 (fun v _ t' => getT p (fun o => setT p o (fun t => sd v (fun f => runD (denD r m) call R (putAll p o Hs) (.cons v e) f kn kp nx t) F0) t) t') (fun _ _ _ => .no) p .leaf = .yes := ho
            obtain ⟨n1, c, H1, h3, h4⟩ := hop _ (callX call) (callX_ok hc) e F0 fr _ _ p .leaf hF (RInv.empty p) ho
            cases c with
            | pan v => cases h4
            | ret v =>
              have h5 : ci.ev e.toAV fr ⟨p, .leaf⟩ = some (v, H1) := run_ret (run_float hl) h3
              have h4 : getT p (fun o => setT p o (fun t => sd v (fun f => runD (denD r m) call R (putAll p o Hs) (.cons v e) f kn kp nx t) F0) t) H1.t = .yes := h4
              rw [getT_eq] at h4
              obtain ⟨o, h6, h7⟩ := oT_yes h4
              rw [setT_eq] at h7
              obtain ⟨F1, h8, h9⟩ := hsd v _ F0 fr hF h7
              have hob : ∀ t n op, o = .cells t n op → Row t n := fun t n op e => by subst e; exact CI.ev_inv (RInv.empty p) h5 p t n op h6
              have hput : ∀ (L : List Heap), (∀ H ∈ L, RInv H) → ∀ H ∈ putAll p o L, RInv H := by
                intro L
                induction L with
                | nil => intro _ H hH; simp [putAll] at hH
                | cons G L ih =>
                  intro hL H hH
                  simp only [putAll, List.mem_cons] at hH
                  rcases hH with rfl | hH
                  · exact RInv.put (hL G (by simp)) hob
                  · exact ih (fun H hH => hL H (by simp [hH])) H hH
              have hlen : ∀ (L : List Heap), (putAll p o L).length = L.length := by
                intro L
                induction L with
                | nil => rfl
                | cons _ _ ih => simp [putAll, ih]
              have hend := ih m R _ (.cons v e) F1 _ kn kp nx _ h8 (RInv.put hI hob) (hput Hs hIs) (by rw [hlen]; exact hm) h9
              have h6 : H1.get p = some o := h6
              exact hend.step 0 (fun n _ => by simp only [DIs.run, hw, h5, h6]; rfl) (fun n _ => by simp only [DIs.pan, hw, h5, h6]; rfl)
        refine dGuard_ind (Q := fun b => runD b call R Hs e F0 kn kp nx t = .yes → EndD tbl kn kp R Hs e.toAV fr ⟨nx, t⟩ (DIs.cons g ci dst .float r)) ?_ ?_
        · exact fun hw h => doit (hw e) h
        intro w hw h
        rcases hw e _ _ h with ⟨h4, h5⟩ | ⟨h4, h5⟩
        · exact doit h4 h5
        · exact skip m hm h4 h5
end
end Go.Dx.K
