/-
  The twin for the kernel, last part: code and calls; what it says yes to, is so.
-/
import Derived.Test.YtpmfhinbmnaomaaGreatDoorDxKg
import Derived.Test.YtpmfhinbmnaomaaGreatDoorDxClaim
set_option linter.unusedSimpArgs false
set_option linter.unusedVariables false
set_option linter.unusedSectionVars false
namespace Go.Dx.K
open Go.Dx

noncomputable section

abbrev SF := Call → F → (F → KH) → (Ex → F → KH) → KH
inductive CBox where
  | mk (f : SF)
def runC (b : CBox) : SF := CBox.rec (motive := fun _ => SF) (fun f => f) b
def noC : CBox := .mk fun _ _ _ _ _ _ => .no

/-- What an end hands on. -/
def resE (kn : F → KH) (kx : Ex → F → KH) (e : Ex) (f : F) (H : Heap) : Tri := match e with
  | .normal => kn f H.next H.t
  | e => kx e f H.next H.t

def CGood (tbl : Nat → Option CFunc) (c : CCode) (b : CBox) : Prop :=
  ∀ call, CallGood tbl (fun n => yldN tbl n) call → ∀ (F0 : F) fr (kn : F → KH) (kx : Ex → F → KH) nx t, RF F0 fr → RInv ⟨nx, t⟩ → runC b call F0 kn kx nx t = .yes → ∃ n e fr' H' F1, run tbl n c fr ⟨nx, t⟩ = some (e, fr', H') ∧ RF F1 fr' ∧ resE kn kx e F1 H' = .yes
def LabGood (tbl : Nat → Option CFunc) (c : CCode) (lab : Nat → Option CBox) : Prop :=
  ∀ l, (findLabelC c l = none ∧ lab l = none) ∨ ∃ r b, findLabelC c l = some r ∧ lab l = some b ∧ CGood tbl r b

/-- An 'exit' at its block. -/
def atX (id : Nat) (kn : F → KH) (kx : Ex → F → KH) (e : Ex) (f : F) : KH :=
  Ex.rec (motive := fun _ => KH) (kn f) (fun i nx t => ifB (Nat.beq i id) (kn f nx t) (kx (.exit i) f nx t)) (fun l => kx (.goto l) f) (kx .ret f) (fun v => kx (.pan v) f) e
def gotoX (kg : Nat → KH) (kx : KH) (e : Ex) : KH := Ex.rec (motive := fun _ => KH) kx (fun _ => kx) kg kx (fun _ => kx) e

def skipC : CBox := .mk fun _ f kn _ => kn f
def regC (r : RBox) : CBox := .mk fun call f kn kx => runR r call .nil f kn (fun v f => kx (.pan v) f)
def reserveK (n : Nat) : (List Pos → Pos → Tri) → Pos → Tri :=
  Nat.rec (motive := fun _ => (List Pos → Pos → Tri) → Pos → Tri) (fun k nx => k [] nx) (fun _ ih k nx => succK nx (fun nx' => ih (fun R nx'' => k (nx :: R) nx'') nx')) n
theorem reserveK_eq (n : Nat) : ∀ (k : List Pos → Pos → Tri) nx (t : Tr AO), reserveK n k nx = k (reserve n ⟨nx, t⟩).1 (reserve n ⟨nx, t⟩).2.next ∧ (reserve n ⟨nx, t⟩).2.t = t := by
  induction n with
  | zero => intro k nx t; exact ⟨rfl, rfl⟩
  | succ n ih =>
    intro k nx t
    obtain ⟨h1, h2⟩ := ih (fun R nx'' => k (nx :: R) nx'') nx.succ t
    refine ⟨?_, h2⟩
    show succK nx (fun nx' => reserveK n (fun R nx'' => k (nx :: R) nx'') nx') = _
    rw [succK_eq, h1]
    rfl
def drawC (d : DBox) (n : Nat) : CBox := .mk fun call f kn kx nx t => reserveK n (fun R nx => runD d call R [] .nil f kn (fun v f => kx (.pan v) f) nx t) nx
def seqC (a b : CBox) : CBox := .mk fun call f kn kx => runC a call f (fun f => runC b call f kn kx) kx
def condC (c : Opd) (a b : CBox) : CBox := dOpd c noC fun g => .mk fun call f kn kx nx t => g (onBool fun q => Bool.rec (motive := fun _ => Tri) (runC b call f kn kx nx t) (runC a call f kn kx nx t) q) .nil f
def blockC (id : Nat) (c : CBox) : CBox := .mk fun call f kn kx => runC c call f kn (atX id kn kx)
def loopK (body : F → (F → KH) → (Ex → F → KH) → KH) (kx : Ex → F → KH) (n : Nat) : F → KH := Nat.rec (motive := fun _ => F → KH) (fun _ _ _ => .no) (fun _ ih f => body f ih kx) n
def loopC (c : CBox) : CBox := .mk fun call f _ kx => loopK (runC c call) kx 100000000 f
def scopeK (lab : Nat → Option CBox) (call : Call) (kn : F → KH) (kx : Ex → F → KH) (n : Nat) : CBox → F → KH :=
  Nat.rec (motive := fun _ => CBox → F → KH) (fun _ _ _ _ => .no) (fun _ ih b f => runC b call f kn (fun e f => gotoX (fun l => Option.rec (motive := fun _ => KH) (kx (.goto l) f) (fun b => ih b f) (lab l)) (kx e f) e)) n
def scopeC (a : CBox) (lab : Nat → Option CBox) : CBox := .mk fun call f kn kx => scopeK lab call kn kx 100000000 a f
/-! A range over a function. -/
inductive SBox where
  | mk (f : AV → (F → Tri) → F → Tri)
def runS (b : SBox) : AV → (F → Tri) → F → Tri := SBox.rec (motive := fun _ => AV → (F → Tri) → F → Tri) (fun f => f) b
def setB (i : Nat) : SBox := fSet (key i) (.mk fun _ _ _ => .no) .mk
theorem setB_ok {i : Nat} {v : AV} {k : F → Tri} {F0 : F} {fr : Tr AV} (hF : RF F0 fr) (h : runS (setB i) v k F0 = .yes) : ∃ F1, RF F1 (fr.set (key i) v) ∧ k F1 = .yes := by
  unfold setB at h
  rcases fSet_eq (key i) (SBox.mk fun _ _ _ => .no) .mk with e | ⟨g, e, hg⟩
  · rw [e] at h; cases (show Tri.no = .yes from h)
  · rw [e] at h
    obtain ⟨f, rfl, hf⟩ := hF
    have h : g v k (mkF f) = .yes := h
    rw [hg] at h
    obtain ⟨hn, h⟩ := chk_yes h
    exact ⟨_, RF.set hf hn, h⟩
inductive GBox where
  | mk (g : (AV → Tri) → F → Tri)
def runG (b : GBox) : (AV → Tri) → F → Tri := GBox.rec (motive := fun _ => (AV → Tri) → F → Tri) (fun f => f) b
def getB (i : Nat) : GBox := fGet (key i) (.mk fun _ _ => .no) .mk
theorem getB_ok {i : Nat} {z : Tri} {k : AV → Tri} {F0 : F} {fr : Tr AV} (hF : RF F0 fr) (h : runG (getB i) (fun v => ifNil z (k v) v) F0 = .yes) : (fr.get (key i) = none ∧ z = .yes) ∨ ∃ v, fr.get (key i) = some v ∧ k v = .yes := by
  unfold getB at h
  rcases fGet_eq (key i) (GBox.mk fun _ _ => .no) .mk with e | ⟨g, e, hg⟩
  · rw [e] at h; cases (show Tri.no = .yes from h)
  · rw [e] at h
    obtain ⟨f, rfl, hf⟩ := hF
    have h : g (fun v => ifNil z (k v) v) (mkF f) = .yes := h
    rw [hg] at h
    rcases ifNil_yes h with ⟨hn, h⟩ | ⟨hn, h⟩
    · exact .inl ⟨hf.2 _ hn, h⟩
    · exact .inr ⟨_, hf.1 _ hn, h⟩
/-- The frame, laid anew. -/
def canonK (n : Nat) : (Tr AV → Tri) → F → Tri :=
  Nat.rec (motive := fun _ => (Tr AV → Tri) → F → Tri) (fun k _ => k .leaf) (fun n ih k f => ih (fun t => runG (getB (Nat.succ n)) (fun v => ifNil (k t) (setT (key (Nat.succ n)) v k t) v) f) f) n
theorem canonK_yes {F0 : F} {fr : Tr AV} (hF : RF F0 fr) : ∀ {n : Nat} {k : Tr AV → Tri}, canonK n k F0 = .yes → k (canonF fr n) = .yes := by
  intro n
  induction n with
  | zero => intro k h; exact h
  | succ n ih =>
    intro k h
    have h := ih (show canonK n (fun t => runG (getB (Nat.succ n)) (fun v => ifNil (k t) (setT (key (Nat.succ n)) v k t) v) F0) F0 = .yes from h)
    rcases getB_ok hF h with ⟨h1, h2⟩ | ⟨v, h1, h2⟩
    · unfold canonF; rw [h1]; exact h2
    · unfold canonF; rw [h1]; rw [setT_eq] at h2; exact h2
/-- A frame that lies in memory. -/
def fillK (fr : Tr AV) (n : Nat) : (F → Tri) → Tri :=
  Nat.rec (motive := fun _ => (F → Tri) → Tri) (fun k => k empty) (fun n ih k => ih (fun f => Option.rec (motive := fun _ => Tri) (k f) (fun v => runS (setB (Nat.succ n)) v k f) (fr.get (key (Nat.succ n))))) n
theorem fillK_yes {fr : Tr AV} : ∀ {n : Nat} {k : F → Tri}, fillK fr n k = .yes → ∃ F1, RF F1 (canonF fr n) ∧ k F1 = .yes := by
  intro n
  induction n with
  | zero => intro k h; exact ⟨_, RF.empty, h⟩
  | succ n ih =>
    intro k h
    obtain ⟨F1, h1, h2⟩ := ih (show fillK fr n (fun f => Option.rec (motive := fun _ => Tri) (k f) (fun v => runS (setB (Nat.succ n)) v k f) (fr.get (key (Nat.succ n)))) = .yes from h)
    cases hg : fr.get (key (n + 1)) with
    | none =>
      have hg' : fr.get (key (Nat.succ n)) = none := hg
      rw [hg'] at h2
      exact ⟨F1, by unfold canonF; rw [hg]; exact h1, h2⟩
    | some v =>
      have hg' : fr.get (key (Nat.succ n)) = some v := hg
      rw [hg'] at h2
      obtain ⟨F2, h3, h4⟩ := setB_ok h1 (show runS (setB (Nat.succ n)) v k F1 = .yes from h2)
      exact ⟨F2, by unfold canonF; rw [hg]; exact h3, h4⟩
def paramsK (ts : List Tmp) : AV → (F → Tri) → F → Tri :=
  List.rec (motive := fun _ => AV → (F → Tri) → F → Tri) (fun as k f => onList (k f) (fun _ _ => .no) as) (fun t _ ih as k f => onList .no (fun v r => runS (setB (Nat.succ t)) v (fun f => ih r k f) f) as) ts
theorem paramsK_yes : ∀ {ts : List Tmp} {as : AV} {k : F → Tri} {F0 : F} {fr : Tr AV}, RF F0 fr → paramsK ts as k F0 = .yes → ∃ F1 fr', setParams ts as fr = some fr' ∧ RF F1 fr' ∧ k F1 = .yes := by
  intro ts
  induction ts with
  | nil =>
    intro as k F0 fr hF h
    rcases onList_yes (show onList (k F0) (fun _ _ => .no) as = .yes from h) with ⟨rfl, h⟩ | ⟨_, _, _, h⟩
    · exact ⟨F0, fr, rfl, hF, h⟩
    · cases h
  | cons t ts ih =>
    intro as k F0 fr hF h
    rcases onList_yes (show onList .no (fun v r => runS (setB (Nat.succ t)) v (fun f => paramsK ts r k f) F0) as = .yes from h) with ⟨_, h⟩ | ⟨v, r, rfl, h⟩
    · cases h
    · obtain ⟨F1, h1, h2⟩ := setB_ok hF h
      exact ih h1 h2
def onLoop (f : Nat → AV → Tr AV → LoopK → Tri) (o : AO) : Tri := AO.rec (motive := fun _ => Tri) (fun _ _ _ => .no) (fun _ _ => .no) .no (fun _ => .no) f (fun _ _ _ _ => .no) (fun _ _ _ => .no) o
theorem onLoop_yes {f : Nat → AV → Tr AV → LoopK → Tri} {o : AO} (h : onLoop f o = .yes) : ∃ st pe fr k, o = .loop st pe fr k ∧ f st pe fr k = .yes := by
  cases o <;> first | exact ⟨_, _, _, _, rfl, h⟩ | cases (show Tri.no = .yes from h)
def endE (kn : F → KH) (kx : Ex → F → KH) (e : Ex) (f : F) : KH := Ex.rec (motive := fun _ => KH) (kn f) (fun i => kx (.exit i) f) (fun l => kx (.goto l) f) (kx .ret f) (fun v => kx (.pan v) f) e
theorem endE_eq (kn : F → KH) (kx : Ex → F → KH) (e : Ex) (f : F) (H : Heap) : endE kn kx e f H.next H.t = resE kn kx e f H := by cases e <;> rfl
/-- The loop's record is closed. -/
def closeK (kn : F → KH) (kx : Ex → F → KH) (f : F) (p : Pos) : KV := fun _ nx t =>
  getT p (onLoop fun st pe fr k => ifB (Nat.beq st 1) .no (oT (fun e => setT p (.loop 3 pe fr k) (fun t => endE kn kx e f nx t) t) (exOf pe))) t
def rangeC (g : Opd) (ps : List Tmp) (asg body : CCode) (sa sb : Code) (n : Nat) (far : Nat → Bool) : CBox :=
  dOpd g noC fun gg => .mk fun call f kn kx nx t => gg (onFunc .no fun fn a b => onFn (fun fid => canonK n (fun tr => appK a (.cons (.yield nx) b) (fun as => succK nx (fun nx' => setT nx (.loop 0 .nil tr ⟨ps, asg, body, sa, sb, n, far⟩)
    (fun t' => call (Nat.succ fid) as (closeK kn kx f nx) (fun v => kx (.pan v) f) nx' t') t))) f) fn) .nil f

def exitC (e : Ex) : CBox := .mk fun _ f _ kx => kx e f

inductive D where
  | mk (b : CBox) (lab : Nat → Option CBox)
def D.box (d : D) : CBox := D.rec (motive := fun _ => CBox) (fun b _ => b) d
def D.lab (d : D) : Nat → Option CBox := D.rec (motive := fun _ => Nat → Option CBox) (fun _ l => l) d
def noLab : Nat → Option CBox := fun _ => none
def seqLab (a b : D) (l : Nat) : Option CBox := Option.rec (motive := fun _ => Option CBox) (b.lab l) (fun r => some (seqC r b.box)) (a.lab l)
def den (c : CCode) : D :=
  CCode.rec (motive := fun _ => D) (.mk skipC noLab) (fun cs => .mk (regC (denR cs)) noLab) (fun ds nf => .mk (drawC (denD ds 0) nf) noLab)
    (fun _ _ a b => .mk (seqC a.box b.box) (seqLab a b)) (fun c _ _ a b => .mk (condC c a.box b.box) noLab) (fun id _ c => .mk (blockC id c.box) noLab) (fun _ c => .mk (loopC c.box) noLab) (fun id => .mk (exitC (.exit id)) noLab)
    (fun _ _ rest c => .mk (scopeC rest.box c.lab) noLab) (fun l' => .mk skipC fun l => if l' = l then some skipC else none) (fun l => .mk (exitC (.goto l)) noLab) (.mk (exitC .ret) noLab) (fun g ps asg body sa sb n far _ _ => .mk (rangeC g ps asg body sa sb n far) noLab) c

section
variable {tbl : Nat → Option CFunc}

theorem good_skipC : CGood tbl .skip skipC := fun call hc F0 fr kn kx nx t hF _ h => ⟨1, .normal, fr, ⟨nx, t⟩, F0, rfl, hF, h⟩
theorem good_label (l : Nat) : CGood tbl (.label l) skipC := fun call hc F0 fr kn kx nx t hF _ h => ⟨1, .normal, fr, ⟨nx, t⟩, F0, rfl, hF, h⟩
theorem good_reg (cs : CIs) : CGood tbl (.region cs) (regC (denR cs)) := by
  intro call hc F0 fr kn kx nx t hF hI h
  obtain ⟨n, o, h1, h2⟩ := denR_ok hc cs .nil F0 fr kn (fun v f => kx (.pan v) f) nx t hF hI h
  have h1 : cs.run (doCall tbl (run tbl n)) (doYield (run tbl n)) .nil fr ⟨nx, t⟩ = some o := h1
  cases o with
  | ok ls fr' H' =>
    obtain ⟨F1, h3, h4⟩ := h2
    exact ⟨n + 1, .normal, fr', H', F1, by simp only [run, stepC, h1], h3, h4⟩
  | pan v fr' H' =>
    obtain ⟨F1, h3, h4⟩ := h2
    exact ⟨n + 1, .pan v, fr', H', F1, by simp only [run, stepC, h1], h3, h4⟩
theorem good_draw (ds : DIs) (nf : Nat) : CGood tbl (.draw ds nf) (drawC (denD ds 0) nf) := by
  intro call hc F0 fr kn kx nx t hF hI h
  have h : reserveK nf (fun R nx => runD (denD ds 0) call R [] .nil F0 kn (fun v f => kx (.pan v) f) nx t) nx = .yes := h
  obtain ⟨h1, h2⟩ := reserveK_eq nf (fun R nx => runD (denD ds 0) call R [] .nil F0 kn (fun v f => kx (.pan v) f) nx t) nx t
  rw [h1] at h
  have hend := denD_ok hc ds 0 _ [] .nil F0 fr kn (fun v f => kx (.pan v) f) _ t hF (RInv.next hI _) (fun H hH => by simp at hH) (Nat.zero_le _) h
  have e : (⟨(reserve nf ⟨nx, t⟩).2.next, t⟩ : Heap) = (reserve nf ⟨nx, t⟩).2 := by
    have : ∀ H : Heap, H.t = t → (⟨H.next, t⟩ : Heap) = H := by rintro ⟨_, _⟩ rfl; rfl
    exact this _ h2
  rcases hend with ⟨n, fr', H', F1, h3, h4, h5⟩ | ⟨n, v, fr', H', F1, h3, h4, h5⟩
  · have h3 : ds.run (doCall tbl (run tbl n)) (reserve nf ⟨nx, t⟩).1 [] .nil fr ⟨(reserve nf ⟨nx, t⟩).2.next, t⟩ = some (fr', H') := h3
    rw [e] at h3
    exact ⟨n + 1, .normal, fr', H', F1, by simp only [run, stepC, h3], h4, h5⟩
  · have h3 : ds.pan (doCall tbl (run tbl n)) (reserve nf ⟨nx, t⟩).1 [] .nil fr ⟨(reserve nf ⟨nx, t⟩).2.next, t⟩ = some (v, fr', H') := h3
    rw [e] at h3
    exact ⟨n + 1, .pan v, fr', H', F1, by simp only [run, stepC, DIs.run_none (fun _ _ _ _ h => h) h3, h3], h4, h5⟩
theorem good_seq' {a b : CCode} {x y : CBox} (ha : CGood tbl a x) (hb : CGood tbl b y) : CGood tbl (.seq a b) (seqC x y) := by
  intro call hc F0 fr kn kx nx t hF hI h
  obtain ⟨n1, e, fr1, H1, F1, h1, h2, h3⟩ := ha call hc F0 fr _ kx nx t hF hI h
  have hI1 := run_inv n1 _ _ _ _ _ _ hI h1
  cases e with
  | normal =>
    obtain ⟨n2, e, fr2, H2, F2, h4, h5, h6⟩ := hb call hc F1 fr1 kn kx H1.next H1.t h2 hI1 h3
    have h4 : run tbl n2 b fr1 H1 = some (e, fr2, H2) := h4
    refine ⟨max n1 n2 + 1, e, fr2, H2, F2, ?_, h5, h6⟩
    simp only [run, stepC]
    rw [run_le (Nat.le_max_left n1 n2) _ _ _ _ h1]
    exact run_le (Nat.le_max_right n1 n2) _ _ _ _ h4
  | exit i => exact ⟨n1 + 1, (.exit i), fr1, H1, F1, by simp only [run, stepC, h1], h2, h3⟩
  | goto l => exact ⟨n1 + 1, (.goto l), fr1, H1, F1, by simp only [run, stepC, h1], h2, h3⟩
  | ret => exact ⟨n1 + 1, .ret, fr1, H1, F1, by simp only [run, stepC, h1], h2, h3⟩
  | pan v => exact ⟨n1 + 1, (.pan v), fr1, H1, F1, by simp only [run, stepC, h1], h2, h3⟩
theorem good_cond {c : Opd} {a b : CCode} {x y : CBox} (ha : CGood tbl a x) (hb : CGood tbl b y) : CGood tbl (.cond c a b) (condC c x y) := by
  unfold condC
  rcases dOpd_eq c noC (fun g => CBox.mk fun call f kn kx nx t => g (onBool fun q => Bool.rec (motive := fun _ => Tri) (runC y call f kn kx nx t) (runC x call f kn kx nx t) q) .nil f) with e | ⟨g, e, hg⟩
  · rw [e]; intro call hc F0 fr kn kx nx t hF hI h; cases (show Tri.no = .yes from h)
  · rw [e]
    intro call hc F0 fr kn kx nx t hF hI h
    obtain ⟨q, h1, h2⟩ := hg.bool hF h
    have hq : condV fr c = some q := by
      unfold condV
      rw [show (Env.nil.toAV) = AV.nil from rfl] at h2
      rw [h2]
    cases q with
    | true =>
      obtain ⟨n1, e, fr1, H1, F1, h1, h2, h3⟩ := ha call hc F0 fr kn kx nx t hF hI h1
      exact ⟨n1 + 1, e, fr1, H1, F1, by simp only [run, stepC, hq, h1], h2, h3⟩
    | false =>
      obtain ⟨n1, e, fr1, H1, F1, h1, h2, h3⟩ := hb call hc F0 fr kn kx nx t hF hI h1
      exact ⟨n1 + 1, e, fr1, H1, F1, by simp only [run, stepC, hq, h1], h2, h3⟩
theorem good_block (id : Nat) {c : CCode} {x : CBox} (hx : CGood tbl c x) : CGood tbl (.block id c) (blockC id x) := by
  intro call hc F0 fr kn kx nx t hF hI h
  obtain ⟨n1, e, fr1, H1, F1, h1, h2, h3⟩ := hx call hc F0 fr kn _ nx t hF hI h
  refine ⟨n1 + 1, atBlock id e, fr1, H1, F1, by simp only [run, stepC, h1], h2, ?_⟩
  cases e with
  | exit i =>
    have h3 : ifB (Nat.beq i id) (kn F1 H1.next H1.t) (kx (.exit i) F1 H1.next H1.t) = .yes := h3
    rw [ifB_e] at h3
    unfold atBlock
    by_cases hi : i = id
    · rw [if_pos hi] at h3; simp only [hi, if_true]; exact h3
    · rw [if_neg hi] at h3; simp only [hi, if_false]; exact h3
  | _ => exact h3
theorem good_loop {c : CCode} {x : CBox} (hx : CGood tbl c x) : CGood tbl (.loop c) (loopC x) := by
  intro call hc F0 fr kn kx nx t hF hI h
  replace h : loopK (runC x call) kx 100000000 F0 nx t = .yes := h
  generalize 100000000 = m at h
  induction m generalizing F0 fr nx t with
  | zero => cases h
  | succ m ih =>
    replace h : runC x call F0 (loopK (runC x call) kx m) kx nx t = .yes := h
    obtain ⟨n1, e, fr1, H1, F1, h1, h2, h3⟩ := hx call hc F0 fr _ kx nx t hF hI h
    have hI1 := run_inv n1 _ _ _ _ _ _ hI h1
    cases e with
    | normal =>
      obtain ⟨n2, e, fr2, H2, F2, h4, h5, h6⟩ := ih F1 fr1 H1.next H1.t h2 hI1 h3
      have h4 : run tbl n2 (.loop c) fr1 H1 = some (e, fr2, H2) := h4
      refine ⟨max n1 n2 + 1, e, fr2, H2, F2, ?_, h5, h6⟩
      simp only [run, stepC]
      rw [run_le (Nat.le_max_left n1 n2) _ _ _ _ h1]
      exact run_le (Nat.le_max_right n1 n2) _ _ _ _ h4
    | exit i => exact ⟨n1 + 1, (.exit i), fr1, H1, F1, by simp only [run, stepC, h1], h2, h3⟩
    | goto l => exact ⟨n1 + 1, (.goto l), fr1, H1, F1, by simp only [run, stepC, h1], h2, h3⟩
    | ret => exact ⟨n1 + 1, .ret, fr1, H1, F1, by simp only [run, stepC, h1], h2, h3⟩
    | pan v => exact ⟨n1 + 1, (.pan v), fr1, H1, F1, by simp only [run, stepC, h1], h2, h3⟩
theorem good_exit (e : Ex) {c : CCode} (he : ∀ rec fr H, stepC tbl rec c fr H = some (e, fr, H)) (hn : e ≠ .normal) : CGood tbl c (exitC e) := by
  intro call hc F0 fr kn kx nx t hF hI h
  refine ⟨1, e, fr, ⟨nx, t⟩, F0, he _ _ _, hF, ?_⟩
  cases e <;> first | exact h | exact absurd rfl hn
theorem good_scope {r c : CCode} {x : CBox} {lab : Nat → Option CBox} (hx : CGood tbl r x) (hl : LabGood tbl c lab) : CGood tbl (.scope r c) (scopeC x lab) := by
  intro call hc F0 fr kn kx nx t hF hI h
  replace h : scopeK lab call kn kx 100000000 x F0 nx t = .yes := h
  generalize 100000000 = m at h
  induction m generalizing r x F0 fr nx t with
  | zero => cases h
  | succ m ih =>
    obtain ⟨n1, e, fr1, H1, F1, h1, h2, h3⟩ := hx call hc F0 fr kn _ nx t hF hI h
    cases e with
    | goto l =>
      have h3 : (Option.rec (motive := fun _ => KH) (kx (.goto l) F1) (fun b => scopeK lab call kn kx m b F1) (lab l) : KH) H1.next H1.t = .yes := h3
      rcases hl l with ⟨h4, h5⟩ | ⟨r', b, h4, h5, h6⟩
      · rw [h5] at h3
        exact ⟨n1 + 1, .goto l, fr1, H1, F1, by simp only [run, stepC, h1, h4], h2, h3⟩
      · rw [h5] at h3
        obtain ⟨n2, e, fr2, H2, F2, h7, h8, h9⟩ := ih h6 F1 fr1 H1.next H1.t h2 (run_inv n1 _ _ _ _ _ _ hI h1) h3
        have h7 : run tbl n2 (.scope r' c) fr1 H1 = some (e, fr2, H2) := h7
        refine ⟨max n1 n2 + 1, e, fr2, H2, F2, ?_, h8, h9⟩
        simp only [run, stepC]
        rw [run_le (Nat.le_max_left n1 n2) _ _ _ _ h1]
        simp only [h4]
        exact run_le (Nat.le_max_right n1 n2) _ _ _ _ h7
    | normal => exact ⟨n1 + 1, .normal, fr1, H1, F1, by simp only [run, stepC, h1], h2, h3⟩
    | exit i => exact ⟨n1 + 1, (.exit i), fr1, H1, F1, by simp only [run, stepC, h1], h2, h3⟩
    | ret => exact ⟨n1 + 1, .ret, fr1, H1, F1, by simp only [run, stepC, h1], h2, h3⟩
    | pan v => exact ⟨n1 + 1, (.pan v), fr1, H1, F1, by simp only [run, stepC, h1], h2, h3⟩

theorem good_range (g : Opd) (ps : List Tmp) (asg body : CCode) (sa sb : Code) (n : Nat) (far : Nat → Bool) : CGood tbl (.rangeFunc g ps asg body sa sb n far) (rangeC g ps asg body sa sb n far) := by
  unfold rangeC
  rcases dOpd_eq g noC (fun gg => CBox.mk fun call f kn kx nx t => gg (onFunc .no fun fn a b => onFn (fun fid => canonK n (fun tr => appK a (.cons (.yield nx) b) (fun as => succK nx (fun nx' => setT nx (.loop 0 .nil tr ⟨ps, asg, body, sa, sb, n, far⟩)
    (fun t' => call (Nat.succ fid) as (closeK kn kx f nx) (fun v => kx (.pan v) f) nx' t') t))) f) fn) .nil f) with e | ⟨gg, e, hg⟩
  · rw [e]; intro call hc F0 fr kn kx nx t hF hI h; cases (show Tri.no = .yes from h)
  · rw [e]
    intro call hc F0 fr kn kx nx t hF hI h
    obtain ⟨v, h1, h2⟩ := hg.of (env := .nil) hF rfl h
    rcases onFunc_yes h1 with ⟨_, h⟩ | ⟨fn, a, b, rfl, h3⟩
    · cases h
    obtain ⟨fid, rfl, h4⟩ := onFn_yes h3
    have h5 := canonK_yes hF h4
    rw [appK_eq, succK_eq, setT_eq] at h5
    have hI1 : RInv ⟨nx.succ, t.set nx (.loop 0 .nil (canonF fr n) ⟨ps, asg, body, sa, sb, n, far⟩)⟩ := RInv.new (H := ⟨nx, t⟩) hI (o := .loop 0 .nil (canonF fr n) ⟨ps, asg, body, sa, sb, n, far⟩) fun _ _ _ e => by cases e
    obtain ⟨m, r, H', h6, h7⟩ := hc.fn _ _ _ _ _ _ hI1 h5
    have hev : g.ev .nil fr = some (.func (.func fid) a b) := h2
    have h6 : doCall tbl (run tbl m) fid (a.app (.cons (.yield nx) b)) (Heap.new ⟨nx, t⟩ (.loop 0 .nil (canonF fr n) ⟨ps, asg, body, sa, sb, n, far⟩)).2 = some (r, H') := h6
    cases r with
    | pan v => exact ⟨m + 1, .pan v, fr, H', F0, by simp only [run, stepC, hev]; rw [h6], hF, h7⟩
    | ret v =>
      have h7 : closeK kn kx F0 nx v H'.next H'.t = .yes := h7
      unfold closeK at h7
      rw [getT_eq] at h7
      obtain ⟨o, h8, h9⟩ := oT_yes h7
      obtain ⟨st, pe, fr', k, rfl, h10⟩ := onLoop_yes h9
      rw [ifB_e] at h10
      by_cases hst : st = 1
      · rw [if_pos hst] at h10; cases h10
      · rw [if_neg hst] at h10
        obtain ⟨e, h11, h12⟩ := oT_yes h10
        rw [setT_eq] at h12
        have h8 : H'.get nx = some (.loop st pe fr' k) := h8
        refine ⟨m + 1, e, fr, H'.put nx (.loop 3 pe fr' k), F0, ?_, hF, ?_⟩
        · simp only [run, stepC, hev]
          rw [h6]
          simp only [h8, hst, if_false, h11]
        · rw [← endE_eq]; exact h12
theorem lab_none {c : CCode} (h : ∀ l, findLabelC c l = none) : LabGood tbl c noLab := fun l => .inl ⟨h l, rfl⟩

theorem den_ok (c : CCode) : CGood tbl c (den c).box ∧ LabGood tbl c (den c).lab := by
  induction c with
  | skip => exact ⟨good_skipC, lab_none fun _ => rfl⟩
  | region cs => exact ⟨good_reg cs, lab_none fun _ => rfl⟩
  | draw ds nf => exact ⟨good_draw ds nf, lab_none fun _ => rfl⟩
  | seq a b iha ihb =>
    refine ⟨good_seq' iha.1 ihb.1, fun l => ?_⟩
    show (findLabelC (.seq a b) l = none ∧ seqLab (den a) (den b) l = none) ∨ ∃ r x, findLabelC (.seq a b) l = some r ∧ seqLab (den a) (den b) l = some x ∧ CGood tbl r x
    simp only [findLabelC, seqLab]
    rcases iha.2 l with ⟨h1, h2⟩ | ⟨r, x, h1, h2, h3⟩
    · rw [h1, h2]
      exact ihb.2 l
    · rw [h1, h2]
      exact .inr ⟨_, _, rfl, rfl, good_seq' h3 ihb.1⟩
  | cond c a b iha ihb => exact ⟨good_cond iha.1 ihb.1, lab_none fun _ => rfl⟩
  | block id c ih => exact ⟨good_block id ih.1, lab_none fun _ => rfl⟩
  | loop c ih => exact ⟨good_loop ih.1, lab_none fun _ => rfl⟩
  | exit id => exact ⟨good_exit _ (fun _ _ _ => rfl) Ex.noConfusion, lab_none fun _ => rfl⟩
  | scope r c ihr ihc => exact ⟨good_scope ihr.1 ihc.2, lab_none fun _ => rfl⟩
  | label l' =>
    refine ⟨good_label l', fun l => ?_⟩
    show (findLabelC (.label l') l = none ∧ (if l' = l then some skipC else none) = none) ∨ ∃ r x, findLabelC (.label l') l = some r ∧ (if l' = l then some skipC else none) = some x ∧ CGood tbl r x
    simp only [findLabelC]
    by_cases h : l' = l
    · rw [if_pos h, if_pos h]; exact .inr ⟨_, _, rfl, rfl, good_skipC⟩
    · rw [if_neg h, if_neg h]; exact .inl ⟨rfl, rfl⟩
  | goto l => exact ⟨good_exit _ (fun _ _ _ => rfl) Ex.noConfusion, lab_none fun _ => rfl⟩
  | ret => exact ⟨good_exit _ (fun _ _ _ => rfl) Ex.noConfusion, lab_none fun _ => rfl⟩
  | rangeFunc g ps asg body sa sb n far _ _ => exact ⟨good_range g ps asg body sa sb n far, lab_none fun _ => rfl⟩
end

/-! Calls. -/
abbrev RGt := (AV → Tri) → F → Tr AO → Tri
def RGd (r : CRes) (g : RGt) : Prop := ∀ k (F0 : F) fr nx t, RF F0 fr → g k F0 t = .yes → ∃ v, r.ev fr ⟨nx, t⟩ = some v ∧ k v = .yes
def dRes {β : Type} (r : CRes) (no : β) (K : RGt → β) : β :=
  CRes.rec (motive := fun _ => β) (fun p => fGet p no fun g => K fun k f _ => g (fun v => chk (k v) v) f) (fun p => fGet p no fun g => K fun k f t => g (onPtr fun q o => cellK q o k t) f) (fun p n => fGet p no fun g => K fun k f t => g (onPtr fun q o => cellsAtK q o n (fun vs => k (.agg vs)) t) f) r
theorem dRes_eq {β : Type} (r : CRes) (no : β) (K : RGt → β) : dRes r no K = no ∨ ∃ g, dRes r no K = K g ∧ RGd r g := by
  cases r with
  | tmp p =>
    rcases fGet_eq p no (fun g => K fun k f _ => g (fun v => chk (k v) v) f) with e | ⟨g, e, hg⟩
    · exact .inl e
    · refine .inr ⟨_, e, fun k F0 fr nx t hF h => ?_⟩
      obtain ⟨f, rfl, hf⟩ := hF
      rw [hg] at h
      obtain ⟨h1, h2⟩ := chk_yes h
      exact ⟨_, hf.1 p h1, h2⟩
  | cell1 p =>
    rcases fGet_eq p no (fun g => K fun k f t => g (onPtr fun q o => cellK q o k t) f) with e | ⟨g, e, hg⟩
    · exact .inl e
    · refine .inr ⟨_, e, fun k F0 fr nx t hF h => ?_⟩
      obtain ⟨f, rfl, hf⟩ := hF
      rw [hg] at h
      obtain ⟨q, o, h1, h2⟩ := onPtr_yes h
      rw [cellK_eq (nx := nx)] at h2
      obtain ⟨v, h3, h4⟩ := oT_yes h2
      refine ⟨v, ?_, h4⟩
      simp only [CRes.ev, hf.1 p (by rw [h1]; exact AV.noConfusion), h1, Option.bind_eq_bind, Option.bind_some, h3]
  | cellN p n =>
    rcases fGet_eq p no (fun g => K fun k f t => g (onPtr fun q o => cellsAtK q o n (fun vs => k (.agg vs)) t) f) with e | ⟨g, e, hg⟩
    · exact .inl e
    · refine .inr ⟨_, e, fun k F0 fr nx t hF h => ?_⟩
      obtain ⟨f, rfl, hf⟩ := hF
      rw [hg] at h
      obtain ⟨q, o, h1, h2⟩ := onPtr_yes h
      rw [cellsAtK_eq (nx := nx)] at h2
      obtain ⟨v, h3, h4⟩ := oT_yes h2
      refine ⟨.agg v, ?_, h4⟩
      simp only [CRes.ev, hf.1 p (by rw [h1]; exact AV.noConfusion), h1, Option.bind_eq_bind, Option.bind_some, h3]
def RGl (rs : List CRes) (g : RGt) : Prop := ∀ k (F0 : F) fr nx t, RF F0 fr → g k F0 t = .yes → ∃ v, resultsL fr ⟨nx, t⟩ rs = some v ∧ k v = .yes
def dResL {β : Type} (rs : List CRes) (no : β) : (RGt → β) → β :=
  List.rec (motive := fun _ => (RGt → β) → β) (fun K => K fun k _ _ => k .nil) (fun r _ ih K => dRes r no fun g => ih fun gs => K fun k f t => g (fun v => gs (fun vs => k (.cons v vs)) f t) f t) rs
theorem dResL_eq {β : Type} (rs : List CRes) (no : β) : ∀ (K : RGt → β), dResL rs no K = no ∨ ∃ g, dResL rs no K = K g ∧ RGl rs g := by
  induction rs with
  | nil => intro K; exact .inr ⟨_, rfl, fun k F0 fr nx t _ h => ⟨.nil, rfl, h⟩⟩
  | cons r rs ih =>
    intro K
    rcases dRes_eq r no (fun g => dResL rs no fun gs => K fun k f t => g (fun v => gs (fun vs => k (.cons v vs)) f t) f t) with e | ⟨g, e, hg⟩
    · exact .inl e
    · rcases ih (fun gs => K fun k f t => g (fun v => gs (fun vs => k (.cons v vs)) f t) f t) with e' | ⟨gs, e', hgs⟩
      · exact .inl (e.trans e')
      · refine .inr ⟨_, e.trans e', fun k F0 fr nx t hF h => ?_⟩
        obtain ⟨v, h1, h2⟩ := hg _ F0 fr nx t hF h
        obtain ⟨vs, h3, h4⟩ := hgs _ F0 fr nx t hF h2
        exact ⟨_, by simp only [resultsL, h1, h3, Option.bind_eq_bind, Option.bind_some], h4⟩
/-- One result is a value, others a tuple. -/
def oneK (k : AV → Tri) (vs : AV) : Tri := onList (k (.tuple .nil)) (fun v r => onList (k v) (fun a b => k (.tuple (.cons v (.cons a b)))) r) vs
theorem oneK_yes {k : AV → Tri} {vs : AV} (h : oneK k vs = .yes) : ∃ v, (match vs with | .cons v .nil => some v | vs => some (.tuple vs)) = some v ∧ k v = .yes := by
  rcases onList_yes h with ⟨rfl, h1⟩ | ⟨v, r, rfl, h1⟩
  · exact ⟨_, rfl, h1⟩
  · rcases onList_yes h1 with ⟨rfl, h2⟩ | ⟨a, b, rfl, h2⟩
    · exact ⟨_, rfl, h2⟩
    · exact ⟨_, rfl, h2⟩

def enterK (as : AV) : Nat → F → (F → Tri) → Tri :=
  AV.rec (motive := fun _ => Nat → F → (F → Tri) → Tri) (fun _ _ _ _ _ _ => .no) (fun _ _ _ => .no) (fun _ _ _ _ => .no) (fun _ _ _ _ _ => .no) (fun _ _ _ _ _ => .no) (fun _ _ _ _ _ => .no) (fun _ _ _ => .no) (fun _ _ _ _ _ _ _ => .no) (fun _ _ _ _ _ _ _ => .no) (fun _ _ _ => .no) (fun _ _ _ _ => .no) (fun _ _ _ => .no)
    (fun _ _ _ _ _ _ _ _ => .no) (fun _ _ _ => .no) (fun _ _ _ _ _ _ => .no) (fun _ _ _ => .no) (fun _ _ _ _ _ => .no) (fun _ _ _ _ _ => .no) (fun _ f k => k f)
    (fun a _ _ ih i f k => runS (setB (Nat.succ i)) a (fun f => ih (Nat.succ i) f k) f) (fun _ _ _ _ => .no) as
theorem enterK_ok {as : AV} : ∀ {i : Nat} {F0 : F} {fr : Tr AV} {k : F → Tri}, RF F0 fr → enterK as i F0 k = .yes → ∃ F1 fr', enterFr as i fr = some fr' ∧ RF F1 fr' ∧ k F1 = .yes := by
  induction as with
  | nil => intro i F0 fr k hF h; exact ⟨F0, fr, rfl, hF, h⟩
  | cons a r _ ih =>
    intro i F0 fr k hF h
    obtain ⟨F1, h1, h2⟩ := setB_ok hF (show runS (setB (Nat.succ i)) a (fun f => enterK r (Nat.succ i) f k) F0 = .yes from h)
    exact ih h1 h2
  | _ => intro i F0 fr k hF h; cases (show Tri.no = .yes from h)

abbrev GF := Call → AV → KV → KV → KH
inductive FBox where
  | mk (g : GF)
def runF (b : FBox) : GF := FBox.rec (motive := fun _ => GF) (fun f => f) b
def noF : FBox := .mk fun _ _ _ _ _ _ => .no
/-- An end of a function's body. -/
def endX (res : F → KH) (kp : KV) (e : Ex) (f : F) : KH := Ex.rec (motive := fun _ => KH) (res f) (fun _ _ _ => .no) (fun _ _ _ => .no) (res f) (fun v => kp v) e
def bodyF (b : CBox) (rs : List CRes) : FBox := dResL rs noF fun g => .mk fun call as kr kp nx t => enterK as 0 empty (fun f => runC b call f (fun f nx t => g (oneK fun v => kr v nx t) f t) (endX (fun f nx t => g (oneK fun v => kr v nx t) f t) kp) nx t)
/-! A function that defers, and deferred calls. -/
def onMode (r : Tri) (p : AV → Tri) (m : AV) : Tri := onIface r (fun u v => p (.iface u v)) m
theorem onMode_yes {r : Tri} {p : AV → Tri} {m : AV} (h : onMode r p m = .yes) : (m = .niliface ∧ r = .yes) ∨ ∃ u v, m = .iface u v ∧ p (.iface u v) = .yes := by
  rcases onIface_yes h with h | ⟨u, v, h1, h2⟩
  · exact .inl h
  · exact .inr ⟨u, v, h1, h2⟩
def leaveK (g : RGt) (call : Call) (kr kp : KV) (f : F) (L : AV) : AV → KH :=
  AV.rec (motive := fun _ => AV → KH) (fun _ _ _ _ _ _ => .no) (fun _ _ _ => .no) (fun _ _ _ _ => .no) (fun _ _ _ _ _ => .no) (fun _ _ _ _ _ => .no) (fun _ _ _ _ _ => .no) (fun _ _ _ => .no) (fun _ _ _ _ _ _ _ => .no) (fun _ _ _ _ _ _ _ => .no) (fun _ _ _ => .no) (fun _ _ _ _ => .no) (fun _ _ _ => .no)
    (fun _ _ _ _ _ _ _ _ => .no) (fun _ _ _ => .no) (fun _ _ _ _ _ _ => .no) (fun _ _ _ => .no) (fun _ _ _ _ _ => .no) (fun _ _ _ _ _ => .no)
    (fun m nx t => onMode (g (oneK fun v => kr v nx t) f t) (fun p => kp p nx t) m)
    (fun d _ _ ih m nx t => onIface .no (fun fi as => call Nat.zero (.cons (.iface fi as) (.cons m .nil)) ih (fun _ _ _ => .no) nx t) d) (fun _ _ _ _ => .no) L
theorem leaveK_ok {tbl : Nat → Option CFunc} {call : Call} (hc : CallGood tbl (fun n => yldN tbl n) call) {g : RGt} {rs : List CRes} (hg : RGl rs g) {kr kp : KV} {F0 : F} {fr : Tr AV} (hF : RF F0 fr) : ∀ {L m : AV} {nx : Pos} {t : Tr AO}, RInv ⟨nx, t⟩ → leaveK g call kr kp F0 L m nx t = .yes →
    ∃ n r H', leave (doCallD tbl (run tbl n)) rs fr L m ⟨nx, t⟩ = some (r, H') ∧ resK kr kp r H' = .yes := by
  intro L
  induction L with
  | nil =>
    intro m nx t hI h
    rcases onMode_yes (show onMode (g (oneK fun v => kr v nx t) F0 t) (fun p => kp p nx t) m = .yes from h) with ⟨rfl, h1⟩ | ⟨u, v, rfl, h1⟩
    · obtain ⟨vs, h2, h3⟩ := hg _ F0 fr nx t hF h1
      obtain ⟨v, h4, h5⟩ := oneK_yes h3
      refine ⟨0, .ret v, ⟨nx, t⟩, ?_, h5⟩
      have : resultsA fr ⟨nx, t⟩ rs = some v := by simp only [resultsA, h2, Option.bind_eq_bind, Option.bind_some]; exact h4
      simp only [leave, this, Option.map_some]
    · exact ⟨0, .pan (.iface u v), ⟨nx, t⟩, rfl, h1⟩
  | cons d r _ ih =>
    intro m nx t hI h
    rcases onIface_yes (show onIface .no (fun fi as => call Nat.zero (.cons (.iface fi as) (.cons m .nil)) (fun m nx t => leaveK g call kr kp F0 r m nx t) (fun _ _ _ => .no) nx t) d = .yes from h) with ⟨_, h1⟩ | ⟨fi, as, rfl, h1⟩
    · cases h1
    · obtain ⟨n1, m', H1, h2, h3⟩ := hc.df _ _ _ _ _ _ _ hI h1
      have i1 : RInv H1 := doCallD_inv (run_inv n1) hI h2
      obtain ⟨n2, r', H', h4, h5⟩ := ih (nx := H1.next) (t := H1.t) i1 h3
      refine ⟨max n1 n2, r', H', ?_, h5⟩
      simp only [leave]
      rw [doCallD_le (run_le (Nat.le_max_left n1 n2)) h2]
      exact leave_le (fun _ _ _ _ _ => doCallD_le (run_le (Nat.le_max_right n1 n2))) h4
  | _ => intro m nx t hI h; cases (show Tri.no = .yes from h)
def outK (g : RGt) (call : Call) (kr kp : KV) (m : AV) (f : F) : KH := fun nx t => runG (getB 0) (fun L => leaveK g call kr kp f L m nx t) f
def endXD (g : RGt) (call : Call) (kr kp : KV) (e : Ex) (f : F) : KH := Ex.rec (motive := fun _ => KH) (outK g call kr kp .niliface f) (fun _ _ _ => .no) (fun _ _ _ => .no) (outK g call kr kp .niliface f) (fun v nx t => onIface .no (fun u x => outK g call kr kp (.iface u x) f nx t) v) e
def bodyFD (b : CBox) (rs : List CRes) : FBox := dResL rs noF fun g => .mk fun call as kr kp nx t => enterK as 0 empty (fun f => runC b call f (fun f nx t => outK g call kr kp .niliface f nx t) (endXD g call kr kp) nx t)
theorem getD_ok {k : AV → Tri} {F0 : F} {fr : Tr AV} (hF : RF F0 fr) (h : runG (getB 0) k F0 = .yes) : k ((fr.get .h).getD .nil) = .yes := by
  unfold getB at h
  rcases fGet_eq (key 0) (GBox.mk fun _ _ => .no) .mk with e | ⟨g, e, hg⟩
  · rw [e] at h; cases (show Tri.no = .yes from h)
  · rw [e] at h
    exact fGet_h hg hF (show g k F0 = .yes from h)
theorem outK_ok {tbl : Nat → Option CFunc} {call : Call} (hc : CallGood tbl (fun n => yldN tbl n) call) {g : RGt} {rs : List CRes} (hg : RGl rs g) {kr kp : KV} {F0 : F} {fr : Tr AV} (hF : RF F0 fr) {m : AV} {H : Heap} (hI : RInv H) (h : outK g call kr kp m F0 H.next H.t = .yes) :
    ∃ n r H', leave (doCallD tbl (run tbl n)) rs fr ((fr.get .h).getD .nil) m H = some (r, H') ∧ resK kr kp r H' = .yes :=
  leaveK_ok hc hg hF (nx := H.next) (t := H.t) hI (getD_ok hF h)
theorem bodyFD_ok {tbl : Nat → Option CFunc} {call : Call} (hc : CallGood tbl (fun n => yldN tbl n) call) {cf : CFunc} {args : AV} {kr kp : KV} {nx : Pos} {t : Tr AO} (hI : RInv ⟨nx, t⟩) (h : runF (bodyFD (den cf.body).box cf.results) call args kr kp nx t = .yes) :
    ∃ n fr r H', enterFr args 0 .leaf = some fr ∧ finishD (doCallD tbl (run tbl n)) cf (run tbl n cf.body fr ⟨nx, t⟩) = some (r, H') ∧ resK kr kp r H' = .yes := by
  obtain ⟨body, rs, konst⟩ := cf
  unfold bodyFD at h
  rcases dResL_eq rs noF (fun g => FBox.mk fun call as kr kp nx t => enterK as 0 empty (fun f => runC (den body).box call f (fun f nx t => outK g call kr kp .niliface f nx t) (endXD g call kr kp) nx t)) with e | ⟨g, e, hg⟩
  · rw [e] at h; cases (show Tri.no = .yes from h)
  · rw [e] at h
    obtain ⟨F1, fr, h1, h2, h3⟩ := enterK_ok RF.empty (show enterK args 0 empty (fun f => runC (den body).box call f (fun f nx t => outK g call kr kp .niliface f nx t) (endXD g call kr kp) nx t) = .yes from h)
    obtain ⟨n, ex, fr', H', F2, h4, h5, h6⟩ := (den_ok (tbl := tbl) body).1 call hc F1 fr _ _ nx t h2 hI h3
    have i1 := run_inv n _ _ _ _ _ _ hI h4
    have fin : ∀ m, (∀ n', finishD (doCallD tbl (run tbl n')) ⟨body, rs, konst⟩ (some (ex, fr', H')) = leave (doCallD tbl (run tbl n')) rs fr' ((fr'.get .h).getD .nil) m H') → outK g call kr kp m F2 H'.next H'.t = .yes →
        ∃ n fr r H', enterFr args 0 .leaf = some fr ∧ finishD (doCallD tbl (run tbl n)) ⟨body, rs, konst⟩ (run tbl n body fr ⟨nx, t⟩) = some (r, H') ∧ resK kr kp r H' = .yes := by
      intro m hfin hout
      obtain ⟨n2, r, H2, h7, h8⟩ := outK_ok hc hg h5 i1 hout
      refine ⟨max n n2, fr, r, H2, h1, ?_, h8⟩
      rw [run_le (Nat.le_max_left n n2) _ _ _ _ h4, hfin]
      exact leave_le (fun _ _ _ _ _ => doCallD_le (run_le (Nat.le_max_right n n2))) h7
    cases ex with
    | normal => exact fin .niliface (fun _ => rfl) h6
    | ret => exact fin .niliface (fun _ => rfl) h6
    | pan v =>
      rcases onIface_yes (show onIface .no (fun u x => outK g call kr kp (.iface u x) F2 H'.next H'.t) v = .yes from h6) with ⟨_, h7⟩ | ⟨u, x, rfl, h7⟩
      · cases h7
      · exact fin (.iface u x) (fun _ => rfl) h7
    | exit _ => cases (show Tri.no = .yes from h6)
    | goto _ => cases (show Tri.no = .yes from h6)

/-- A plain function's body. -/
theorem bodyF_ok {tbl : Nat → Option CFunc} {call : Call} (hc : CallGood tbl (fun n => yldN tbl n) call) {cf : CFunc} {args : AV} {kr kp : KV} {nx : Pos} {t : Tr AO} (hI : RInv ⟨nx, t⟩) (h : runF (bodyF (den cf.body).box cf.results) call args kr kp nx t = .yes) :
    ∃ n fr r H', enterFr args 0 .leaf = some fr ∧ finish cf (run tbl n cf.body fr ⟨nx, t⟩) = some (r, H') ∧ resK kr kp r H' = .yes := by
  obtain ⟨body, rs, konst⟩ := cf
  unfold bodyF at h
  rcases dResL_eq rs noF (fun g => FBox.mk fun call as kr kp nx t => enterK as 0 empty (fun f => runC (den body).box call f (fun f nx t => g (oneK fun v => kr v nx t) f t) (endX (fun f nx t => g (oneK fun v => kr v nx t) f t) kp) nx t)) with e | ⟨g, e, hg⟩
  · rw [e] at h; cases (show Tri.no = .yes from h)
  · rw [e] at h
    obtain ⟨F1, fr, h1, h2, h3⟩ := enterK_ok RF.empty (show enterK args 0 empty (fun f => runC (den body).box call f (fun f nx t => g (oneK fun v => kr v nx t) f t) (endX (fun f nx t => g (oneK fun v => kr v nx t) f t) kp) nx t) = .yes from h)
    obtain ⟨n, ex, fr', H', F2, h4, h5, h6⟩ := (den_ok (tbl := tbl) body).1 call hc F1 fr _ _ nx t h2 hI h3
    have res : g (oneK fun v => kr v H'.next H'.t) F2 H'.t = .yes → ∃ v, resultsA fr' H' rs = some v ∧ kr v H'.next H'.t = .yes := by
      intro hr
      obtain ⟨vs, h7, h8⟩ := hg _ F2 fr' H'.next H'.t h5 hr
      obtain ⟨v, h9, h10⟩ := oneK_yes h8
      have h7 : resultsL fr' H' rs = some vs := h7
      exact ⟨v, by simp only [resultsA, h7, Option.bind_eq_bind, Option.bind_some]; exact h9, h10⟩
    cases ex with
    | normal =>
      obtain ⟨v, h7, h8⟩ := res h6
      exact ⟨n, fr, .ret v, H', h1, by rw [h4]; simp only [finish, h7, Option.map_some], h8⟩
    | ret =>
      obtain ⟨v, h7, h8⟩ := res h6
      exact ⟨n, fr, .ret v, H', h1, by rw [h4]; simp only [finish, h7, Option.map_some], h8⟩
    | pan v => exact ⟨n, fr, .pan v, H', h1, by rw [h4]; rfl, h6⟩
    | exit _ => cases (show Tri.no = .yes from h6)
    | goto _ => cases (show Tri.no = .yes from h6)

abbrev GDf := Call → AV → AV → KV → KH
inductive DFBox where
  | mk (g : GDf)
def runDF (b : DFBox) : GDf := DFBox.rec (motive := fun _ => GDf) (fun f => f) b
def noDF : DFBox := .mk fun _ _ _ _ _ _ => .no
/-- The mode that is left. -/
def askK (g : RGt) (kr : KV) (f : F) : KH := fun nx t => g (fun _ => runG (getB 0) (fun m => ifNil .no (kr m nx t) m) f) f t
def bodyS (b : CBox) (rs : List CRes) : DFBox := dResL rs noDF fun g => .mk fun call as m kr nx t => enterK as 0 empty (fun f => runS (setB 0) m (fun f => runC b call f (fun f nx t => askK g kr f nx t) (endX (fun f nx t => askK g kr f nx t) (fun _ _ _ => .no)) nx t) f)
def bodyP (body : CCode) (rs : List CRes) : DFBox := .mk fun call as m kr nx t => runF (bodyF (den body).box rs) call as (fun _ => kr m) (fun _ _ _ => .no) nx t
def tblD (tbl : Nat → Option CFunc) (f : Nat) : DFBox :=
  Option.rec (motive := fun _ => DFBox) noDF (fun cf => CFunc.rec (motive := fun _ => DFBox) (fun body rs konst => Option.rec (motive := fun _ => DFBox) (Bool.rec (motive := fun _ => DFBox) noDF (bodyP body rs) (CCode.plain body)) (fun kn => Kn.rec (motive := fun _ => DFBox) (fun _ => noDF) (fun _ => noDF) (fun _ => noDF) noDF (bodyS (den body).box rs) kn) konst) cf) (tbl f)
theorem askK_ok {g : RGt} {rs : List CRes} (hg : RGl rs g) {kr : KV} {F0 : F} {fr : Tr AV} (hF : RF F0 fr) {H : Heap} (h : askK g kr F0 H.next H.t = .yes) : ∃ v m', resultsA fr H rs = some v ∧ fr.get .h = some m' ∧ kr m' H.next H.t = .yes := by
  obtain ⟨vs, h1, h2⟩ := hg _ F0 fr H.next H.t hF h
  rcases getB_ok (i := 0) hF h2 with ⟨_, h3⟩ | ⟨m', h3, h4⟩
  · cases h3
  · have h1 : resultsL fr H rs = some vs := h1
    have : ∃ v, resultsA fr H rs = some v := by
      simp only [resultsA, h1, Option.bind_eq_bind, Option.bind_some]
      split
      · exact ⟨_, rfl⟩
      · exact ⟨_, rfl⟩
    obtain ⟨v, hv⟩ := this
    exact ⟨v, m', hv, h3, h4⟩
theorem tblD_ok {tbl : Nat → Option CFunc} {call : Call} (hc : CallGood tbl (fun n => yldN tbl n) call) {f : Nat} {as m : AV} {kr : KV} {nx : Pos} {t : Tr AO} (hI : RInv ⟨nx, t⟩) (h : runDF (tblD tbl f) call as m kr nx t = .yes) :
    ∃ n m' H', doCallD tbl (run tbl n) f as m ⟨nx, t⟩ = some (m', H') ∧ kr m' H'.next H'.t = .yes := by
  unfold tblD at h
  cases hf : tbl f with
  | none => rw [hf] at h; cases (show Tri.no = .yes from h)
  | some cf =>
    rw [hf] at h
    obtain ⟨body, rs, konst⟩ := cf
    cases konst with
    | none =>
      cases hp : body.plain with
      | false =>
        have h : runDF (Bool.rec (motive := fun _ => DFBox) noDF (bodyP body rs) (CCode.plain body)) call as m kr nx t = .yes := h
        rw [hp] at h
        cases (show Tri.no = .yes from h)
      | true =>
        have h : runDF (Bool.rec (motive := fun _ => DFBox) noDF (bodyP body rs) (CCode.plain body)) call as m kr nx t = .yes := h
        rw [hp] at h
        obtain ⟨n, fr, r, H', h1, h2, h3⟩ := bodyF_ok hc (cf := ⟨body, rs, none⟩) hI (show runF (bodyF (den body).box rs) call as (fun _ => kr m) (fun _ _ _ => .no) nx t = .yes from h)
        cases r with
        | pan v => cases (show Tri.no = .yes from h3)
        | ret v =>
          have h2 : finish ⟨body, rs, none⟩ (run tbl n body fr ⟨nx, t⟩) = some (.ret v, H') := h2
          exact ⟨n, m, H', by simp only [doCallD, hf, hp, if_true, h1, h2], h3⟩
    | some kn =>
      cases kn with
      | recov =>
        have h : runDF (bodyS (den body).box rs) call as m kr nx t = .yes := h
        unfold bodyS at h
        rcases dResL_eq rs noDF (fun g => DFBox.mk fun call as m kr nx t => enterK as 0 empty (fun f => runS (setB 0) m (fun f => runC (den body).box call f (fun f nx t => askK g kr f nx t) (endX (fun f nx t => askK g kr f nx t) (fun _ _ _ => .no)) nx t) f)) with e | ⟨g, e, hg⟩
        · rw [e] at h; cases (show Tri.no = .yes from h)
        · rw [e] at h
          obtain ⟨F1, fr, h1, h2, h3⟩ := enterK_ok RF.empty (show enterK as 0 empty (fun f => runS (setB 0) m (fun f => runC (den body).box call f (fun f nx t => askK g kr f nx t) (endX (fun f nx t => askK g kr f nx t) (fun _ _ _ => .no)) nx t) f) = .yes from h)
          obtain ⟨F1', h2', h3'⟩ := setB_ok h2 h3
          obtain ⟨n, ex, fr', H', F2, h4, h5, h6⟩ := (den_ok (tbl := tbl) body).1 call hc F1' _ _ _ nx t h2' hI h3'
          have h4 : run tbl n body (fr.set .h m) ⟨nx, t⟩ = some (ex, fr', H') := h4
          cases ex with
          | normal =>
            obtain ⟨v, m', h7, h8, h9⟩ := askK_ok hg h5 (H := H') h6
            exact ⟨n, m', H', by simp only [doCallD, hf, h1, h4, h7, h8], h9⟩
          | ret =>
            obtain ⟨v, m', h7, h8, h9⟩ := askK_ok hg h5 (H := H') h6
            exact ⟨n, m', H', by simp only [doCallD, hf, h1, h4, h7, h8], h9⟩
          | pan v => cases (show Tri.no = .yes from h6)
          | exit _ => cases (show Tri.no = .yes from h6)
          | goto _ => cases (show Tri.no = .yes from h6)
      | _ => cases (show Tri.no = .yes from h)

def tblB (tbl : Nat → Option CFunc) (f : Nat) : FBox :=
  Option.rec (motive := fun _ => FBox) noF (fun cf => CFunc.rec (motive := fun _ => FBox) (fun body rs konst => Option.rec (motive := fun _ => FBox) (bodyF (den body).box rs) (fun kn => Kn.rec (motive := fun _ => FBox) (fun v => .mk fun _ as kr _ nx t => onList (kr v nx t) (fun _ _ => .no) as) (fun g => .mk fun _ as kr _ nx t => oT (fun v => fA v (fun v => kr v nx t)) (g as ⟨nx, t⟩)) (fun k => .mk fun _ as kr _ nx t => oT (fun q => fA q.1 (fun v => kr v q.2.next q.2.t)) (actF k as ⟨nx, t⟩)) (bodyFD (den body).box rs) noF kn) konst) cf) (tbl f)
/-- A round. -/
def afterK (kr : KV) (p : Pos) (e : Ex) : KH := fun nx t =>
  oT (fun pe' => getT p (onLoop fun _ _ fr k => ifNil (setT p (.loop 0 .nil fr k) (fun t => kr (.bool true) nx t) t) (setT p (.loop 2 pe' fr k) (fun t => kr (.bool false) nx t) t) pe') t) (pendOf e)
def roundK (call : Call) (kr : KV) (p : Pos) (as : AV) : KH := fun nx t =>
  getT p (onLoop fun st _ fr k => Nat.rec (motive := fun _ => Tri)
    (LoopK.rec (motive := fun _ => Tri) (fun ps asg body _ _ n _ => fillK fr n (fun f => paramsK ps as (fun f => runC (den asg).box call f (fun f nx t =>
      getT p (onLoop fun st pe fr3 k3 => Nat.rec (motive := fun _ => Tri) (setT p (.loop 1 pe fr3 k3) (fun t => runC (den body).box call f (fun _ => afterK kr p .normal) (fun e _ => afterK kr p e) nx t) t) (fun _ _ => .no) st) t) (fun _ _ _ _ => .no) nx t) f)) k)
    (fun _ _ => .no) st) t
/-- A round, or a deferred call. -/
def onYI (y : Pos → Tri) (i : Nat → AV → Tri) (v : AV) : Tri :=
  AV.rec (motive := fun _ => Tri) (fun _ _ _ => .no) .no (fun _ => .no) (fun _ _ => .no) (fun _ _ => .no) (fun _ _ => .no) .no (fun _ _ _ _ => .no) (fun _ _ _ _ => .no) .no (fun _ => .no) .no (fun _ _ _ _ _ => .no) .no (fun u x _ => i u x) .no (fun _ _ => .no) (fun _ _ => .no) .no (fun _ _ _ _ => .no) y v
def yieldK (tbl : Nat → Option CFunc) (call : Call) (as : AV) (kr : KV) : KH := fun nx t => onList .no (fun y as => onYI (fun p => roundK call kr p as nx t) (fun f as' => onList .no (fun m _ => runDF (tblD tbl f) call as' m kr nx t) as) y) as
theorem afterK_yes {kr kp : KV} {p : Pos} {e : Ex} {H : Heap} (h : afterK kr p e H.next H.t = .yes) : ∃ pe', pendOf e = some pe' ∧ ∃ st pe fr k, H.get p = some (.loop st pe fr k) ∧ ((pe' = .nil ∧ resK kr kp (.ret (.bool true)) (H.put p (.loop 0 .nil fr k)) = .yes) ∨ (pe' ≠ .nil ∧ resK kr kp (.ret (.bool false)) (H.put p (.loop 2 pe' fr k)) = .yes)) := by
  obtain ⟨pe', h1, h2⟩ := oT_yes h
  rw [getT_eq] at h2
  obtain ⟨o, h3, h4⟩ := oT_yes h2
  obtain ⟨st, pe, fr, k, rfl, h5⟩ := onLoop_yes h4
  refine ⟨pe', h1, st, pe, fr, k, h3, ?_⟩
  rw [setT_eq, setT_eq] at h5
  exact ifNil_yes h5
theorem yieldK_ok {tbl : Nat → Option CFunc} {call : Call} (hc : CallGood tbl (fun n => yldN tbl n) call) {p : Pos} {as : AV} {kr kp : KV} {nx : Pos} {t : Tr AO} (hI : RInv ⟨nx, t⟩) (h : yieldK tbl call (.cons (.yield p) as) kr nx t = .yes) :
    ∃ n r H', yldN tbl n p as ⟨nx, t⟩ = some (r, H') ∧ resK kr kp r H' = .yes := by
  have h : roundK call kr p as nx t = .yes := h
  unfold roundK at h
  rw [getT_eq] at h
  obtain ⟨o, h1, h2⟩ := oT_yes h
  obtain ⟨st, pe, fr, k, rfl, h3⟩ := onLoop_yes h2
  cases st with
  | succ st => cases (show Tri.no = .yes from h3)
  | zero =>
    obtain ⟨ps, asg, body, sa, sb, n, far⟩ := k
    obtain ⟨F1, h4, h5⟩ := fillK_yes (show fillK fr n _ = .yes from h3)
    obtain ⟨F2, fr1, h6, h7, h8⟩ := paramsK_yes h4 h5
    obtain ⟨n1, e1, fr2, H2, F3, h9, h10, h11⟩ := (den_ok (tbl := tbl) asg).1 call hc F2 fr1 _ _ nx t h7 hI h8
    have i2 := run_inv n1 _ _ _ _ _ _ hI h9
    cases e1 with
    | normal =>
      have h11 : getT p _ H2.t = .yes := h11
      rw [getT_eq] at h11
      obtain ⟨o, h12, h13⟩ := oT_yes h11
      obtain ⟨st3, pe3, fr3, k3, rfl, h14⟩ := onLoop_yes h13
      cases st3 with
      | succ st => cases (show Tri.no = .yes from h14)
      | zero =>
        have h14 : setT p (.loop 1 pe3 fr3 k3) (fun t => runC (den body).box call F3 (fun _ => afterK kr p .normal) (fun e _ => afterK kr p e) H2.next t) H2.t = .yes := h14
        rw [setT_eq] at h14
        have i3 : RInv (H2.put p (.loop 1 pe3 fr3 k3)) := i2.put fun _ _ _ e => by cases e
        obtain ⟨n2, e2, fr4, H3, F4, h15, h16, h17⟩ := (den_ok (tbl := tbl) body).1 call hc F3 fr2 _ _ H2.next _ h10 i3 h14
        have h17 : afterK kr p e2 H3.next H3.t = .yes := by cases e2 <;> exact h17
        obtain ⟨pe', h18, st4, pe4, fr5, k5, h19, h20⟩ := afterK_yes (kp := kp) h17
        have h1 : (⟨nx, t⟩ : Heap).get p = some (.loop 0 pe fr ⟨ps, asg, body, sa, sb, n, far⟩) := h1
        have h12 : H2.get p = some (.loop 0 pe3 fr3 k3) := h12
        have g9 := run_le (tbl := tbl) (Nat.le_max_left n1 n2) _ _ _ _ h9
        have g15 := run_le (tbl := tbl) (Nat.le_max_right n1 n2) _ _ _ _ (show run tbl n2 body fr2 (H2.put p (.loop 1 pe3 fr3 k3)) = some (e2, fr4, H3) from h15)
        rcases h20 with ⟨rfl, h20⟩ | ⟨hne, h20⟩
        · exact ⟨max n1 n2, _, _, by simp only [yldN, doYield, h1, h6, g9, h12, g15, h18, h19], h20⟩
        · refine ⟨max n1 n2, _, _, ?_, h20⟩
          simp only [yldN, doYield, h1, h6, g9, h12, g15, h18, h19]
    | exit i => cases (show Tri.no = .yes from h11)
    | goto l => cases (show Tri.no = .yes from h11)
    | ret => cases (show Tri.no = .yes from h11)
    | pan v => cases (show Tri.no = .yes from h11)
/-- Calls, of a depth. -/
def callD (tbl : Nat → Option CFunc) (d : Nat) : Call := Nat.rec (motive := fun _ => Call) (fun _ _ _ _ _ _ => .no) (fun _ ih f as kr kp => Nat.rec (motive := fun _ => KH) (yieldK tbl ih as kr) (fun f _ => runF (tblB tbl f) ih as kr kp) f) d

theorem callD_ok (tbl : Nat → Option CFunc) (d : Nat) : CallGood tbl (fun n => yldN tbl n) (callD tbl d) := by
  induction d with
  | zero => exact ⟨fun f args kr kp nx t _ h => (by cases (show Tri.no = .yes from h)), fun p args kr kp nx t _ h => (by cases (show Tri.no = .yes from h)), fun f as m kr kp nx t _ h => (by cases (show Tri.no = .yes from h))⟩
  | succ d ih =>
    refine ⟨fun f args kr kp nx t hI h => ?_, fun p args kr kp nx t hI h => yieldK_ok ih hI h, fun f as m kr kp nx t hI h => tblD_ok ih hI (show runDF (tblD tbl f) (callD tbl d) as m kr nx t = .yes from h)⟩
    have h : runF (tblB tbl f) (callD tbl d) args kr kp nx t = .yes := h
    unfold tblB at h
    cases hf : tbl f with
    | none => rw [hf] at h; cases (show Tri.no = .yes from h)
    | some cf =>
      rw [hf] at h
      obtain ⟨body, rs, konst⟩ := cf
      cases konst with
      | some kn =>
        cases kn with
        | val v =>
          rcases onList_yes (show onList (kr v nx t) (fun _ _ => .no) args = .yes from h) with ⟨rfl, h⟩ | ⟨_, _, _, h⟩
          · exact ⟨0, .ret v, ⟨nx, t⟩, by simp only [callN, doCall, hf], h⟩
          · cases h
        | nat g =>
          obtain ⟨v, h1, h2⟩ := oT_yes (show oT (fun v => fA v (fun v => kr v nx t)) (g args ⟨nx, t⟩) = .yes from h)
          rw [fA_eq] at h2
          exact ⟨0, .ret v, ⟨nx, t⟩, by simp only [callN, doCall, hf, h1], h2⟩
        | act k =>
          obtain ⟨⟨v, H2⟩, h1, h2⟩ := oT_yes (show oT (fun q => fA q.1 (fun v => kr v q.2.next q.2.t)) (actF _ args ⟨nx, t⟩) = .yes from h)
          rw [fA_eq] at h2
          exact ⟨0, .ret v, H2, by simp only [callN, doCall, hf, h1], h2⟩
        | dfr =>
          obtain ⟨n, fr, r, H', h1, h2, h3⟩ := bodyFD_ok ih (cf := ⟨body, rs, some .dfr⟩) hI (show runF (bodyFD (den body).box rs) (callD tbl d) args kr kp nx t = .yes from h)
          have h2 : finishD (doCallD tbl (run tbl n)) ⟨body, rs, some .dfr⟩ (run tbl n body fr ⟨nx, t⟩) = some (r, H') := h2
          exact ⟨n, r, H', by simp only [callN, doCall, hf, h1, h2], h3⟩
        | recov => cases (show Tri.no = .yes from h)
      | none =>
        obtain ⟨n, fr, r, H', h1, h2, h3⟩ := bodyF_ok ih (cf := ⟨body, rs, none⟩) hI (show runF (bodyF (den body).box rs) (callD tbl d) args kr kp nx t = .yes from h)
        have h2 : finish ⟨body, rs, none⟩ (run tbl n body fr ⟨nx, t⟩) = some (r, H') := h2
        exact ⟨n, r, H', by simp only [callN, doCall, hf, h1, h2], h3⟩

def kTrue : KV := fun v _ _ => onBool (fun b => ifB b .yes .no) v
def kNo : KV := fun _ _ _ => .no
/-- What a closed law's run is to come to. -/
def holds (tbl : Nat → Option CFunc) (f : Nat) : Tri := callD tbl 10000 (Nat.succ f) .nil kTrue kNo .h .leaf
theorem holds_ok {tbl : Nat → Option CFunc} {f : Nat} (h : holds tbl f = .yes) : ∃ n, isTrue (callN tbl n f .nil ⟨.h, .leaf⟩) = true := by
  obtain ⟨n, r, H', h1, h2⟩ := (callD_ok tbl 10000).fn f .nil kTrue kNo .h .leaf (RInv.empty _) h
  cases r with
  | pan v => cases (show Tri.no = .yes from h2)
  | ret v =>
    obtain ⟨b, rfl, h3⟩ := onBool_yes h2
    cases b with
    | false => cases (show Tri.no = .yes from h3)
    | true => exact ⟨n, by rw [h1]; rfl⟩
/-- The same, from where package-level variables lie. -/
def holdsG (tbl : Nat → Option CFunc) (f : Nat) (H : Heap) : Tri := callD tbl 10000 (Nat.succ f) .nil kTrue kNo H.next H.t
theorem holdsG_ok {tbl : Nat → Option CFunc} {f : Nat} {H : Heap} (hI : RInv H) (h : holdsG tbl f H = .yes) : ∃ n, isTrue (callN tbl n f .nil H) = true := by
  obtain ⟨n, r, H', h1, h2⟩ := (callD_ok tbl 10000).fn f .nil kTrue kNo H.next H.t hI h
  cases r with
  | pan v => cases (show Tri.no = .yes from h2)
  | ret v =>
    obtain ⟨b, rfl, h3⟩ := onBool_yes h2
    cases b with
    | false => cases (show Tri.no = .yes from h3)
    | true => exact ⟨n, by show isTrue (callN tbl n f .nil ⟨H.next, H.t⟩) = true; rw [h1]; rfl⟩
/-- The same, with arguments. -/
def holdsA (tbl : Nat → Option CFunc) (f : Nat) («as» : AV) (H : Heap) : Tri := callD tbl 10000 (Nat.succ f) «as» kTrue kNo H.next H.t
theorem holdsA_ok {tbl : Nat → Option CFunc} {f : Nat} {«as» : AV} {H : Heap} (hI : RInv H) (h : holdsA tbl f «as» H = .yes) : ∃ n, isTrue (callN tbl n f «as» H) = true := by
  obtain ⟨n, r, H', h1, h2⟩ := (callD_ok tbl 10000).fn f «as» kTrue kNo H.next H.t hI h
  cases r with
  | pan v => cases (show Tri.no = .yes from h2)
  | ret v =>
    obtain ⟨b, rfl, h3⟩ := onBool_yes h2
    cases b with
    | false => cases (show Tri.no = .yes from h3)
    | true => exact ⟨n, by show isTrue (callN tbl n f «as» ⟨H.next, H.t⟩) = true; rw [h1]; rfl⟩
end
end Go.Dx.K
