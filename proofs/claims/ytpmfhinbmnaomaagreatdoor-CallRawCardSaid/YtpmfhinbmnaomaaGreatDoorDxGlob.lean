/-
  A run that begins where package-level variables lie: closed calls, from what those hold.
-/
import Derived.Test.YtpmfhinbmnaomaaGreatDoorDxClaim
import Derived.Lib.LaidTab
set_option linter.unusedSimpArgs false
set_option linter.unusedVariables false
set_option linter.unusedSectionVars false
namespace Go.Dx

/-- All that is there is read alone. -/
def ROnlyG (H : Heap) : Prop := ∀ p, H.live p = true → p.num < H.next.num ∧ ∃ t, H.get p = some (.ro t)

theorem closed_callsG {P : Program} {tbl : Nat → Option CFunc} {ng : Nat} (hT : TblOk P ng tbl) {n f : Nat} {H : Heap} (hro : ROnlyG H) (h : isTrue (callN tbl n f .nil H) = true) {w : World} {ρ : Ren} (hrel : HRel P ng ρ H w) :
    Calls P f #[] w fun e w' => e = .returned (.bool true) ∧ w.keptBut w' (fun _ => False) := by
  unfold isTrue at h
  split at h
  · rename_i H' he
    obtain ⟨_, hc⟩ := callN_ok hT n f .nil H _ _ he
    refine Calls.mono (hc ρ w #[] hrel rfl rfl) ?_
    intro e w' ⟨ρ', h1, h2, h3⟩
    cases e with
    | returned x =>
      have hx : x = .bool true := RX.bool_eq (ρ := ρ') h3
      refine ⟨by rw [hx], h2.os, h2.output, fun i hi => ?_⟩
      have hsame : w'.heap[i]? = w.heap[i]? := by
        by_cases hb : ∃ p L, H.live p = true ∧ ρ p = some L ∧ L.b = i
        · obtain ⟨p, L, hp, hL, rfl⟩ := hb
          obtain ⟨hn, t, ht⟩ := hro p hp
          exact (h2.keep p hn t ht).2 L hL hi
        · exact h2.frame i hi fun p L hp hL e => hb ⟨p, L, hp, hL, e⟩
      rw [hsame]
      cases w.heap[i]? with
      | none => trivial
      | some o => cases o <;> first | exact ⟨rfl, rfl, rfl, fun _ _ => rfl⟩ | exact .inr ⟨rfl, rfl⟩ | rfl
    | _ => exact h3.elim
  · cases h

/-- The same, with arguments. -/
theorem closed_callsA {P : Program} {tbl : Nat → Option CFunc} {ng : Nat} (hT : TblOk P ng tbl) {n f : Nat} {«as» : AV} {xs : Array Value} {H : Heap} (hro : ROnlyG H) (h : isTrue (callN tbl n f «as» H) = true) {w : World} {ρ : Ren} (hrel : HRel P ng ρ H w) (hl : «as».isList = true) (hx : RX ρ «as» xs.toList) :
    Calls P f xs w fun e w' => e = .returned (.bool true) ∧ w.keptBut w' (fun _ => False) := by
  unfold isTrue at h
  split at h
  · rename_i H' he
    obtain ⟨_, hc⟩ := callN_ok hT n f «as» H _ _ he
    refine Calls.mono (hc ρ w xs hrel hx hl) ?_
    intro e w' ⟨ρ', h1, h2, h3⟩
    cases e with
    | returned x =>
      have he : x = .bool true := RX.bool_eq (ρ := ρ') h3
      refine ⟨by rw [he], h2.os, h2.output, fun i hi => ?_⟩
      have hsame : w'.heap[i]? = w.heap[i]? := by
        by_cases hb : ∃ p L, H.live p = true ∧ ρ p = some L ∧ L.b = i
        · obtain ⟨p, L, hp, hL, rfl⟩ := hb
          obtain ⟨hn, t, ht⟩ := hro p hp
          exact (h2.keep p hn t ht).2 L hL hi
        · exact h2.frame i hi fun p L hp hL e => hb ⟨p, L, hp, hL, e⟩
      rw [hsame]
      cases w.heap[i]? with
      | none => trivial
      | some o => cases o <;> first | exact ⟨rfl, rfl, rfl, fun _ _ => rfl⟩ | exact .inr ⟨rfl, rfl⟩ | rfl
    | _ => exact h3.elim
  · cases h

/-- The memory of a start: objects that are read alone, by number; the names up to 'next' are given out. -/
def gTree : List (Nat × Tr AV) → Tr AO
  | [] => .leaf
  | (g, t) :: r => (gTree r).set (key g) (.ro t)
def gHeap (gs : List (Nat × Tr AV)) (next : Nat) : Heap := ⟨key next, gTree gs⟩

theorem gTree_get : ∀ {gs : List (Nat × Tr AV)} {p : Pos} {o : AO}, (gTree gs).get p = some o → ∃ q ∈ gs, p = key q.1 ∧ o = .ro q.2 := by
  intro gs
  induction gs with
  | nil => intro p o h; unfold gTree at h; rw [Tr.get_leaf] at h; cases h
  | cons q r ih =>
    obtain ⟨g, t⟩ := q
    intro p o h
    simp only [gTree] at h
    rw [Tr.get_set] at h
    split at h
    · rename_i e; cases h; exact ⟨_, List.mem_cons_self .., e, rfl⟩
    · obtain ⟨q, h1, h2⟩ := ih h; exact ⟨q, List.mem_cons_of_mem _ h1, h2⟩

structure GOk (ng : Nat) (ρ : Ren) (gs : List (Nat × Tr AV)) (next : Nat) (w : World) : Prop where
  names : ∀ p L, ρ p = some L → p.num ≤ next ∧ L.b < w.heap.size
  globals : ∀ g, g < ng → ∃ sz, ρ (key g) = some ⟨g, 0, sz⟩
  below : ∀ q ∈ gs, q.1 < next
  objs : ∀ q ∈ gs, ∀ L, ρ (key q.1) = some L → ∃ c e fr, w.heap[L.b]? = some (.cells c e fr) ∧ ∀ i v, q.2.get (key i) = some v → ∃ x, c[L.base + i]? = some x ∧ RX ρ v [x] ∧ isCell v = true
  inj : ∀ a ∈ gs, ∀ b ∈ gs, ∀ L M, ρ (key a.1) = some L → ρ (key b.1) = some M → L.b = M.b → a.1 = b.1

theorem live_get' {H : Heap} {p : Pos} (h : H.live p = true) : ∃ o, H.get p = some o ∧ o ≠ .dead := by
  unfold Heap.live at h
  cases ho : H.get p with
  | none => rw [ho] at h; cases h
  | some o => exact ⟨o, rfl, fun e => by subst e; rw [ho] at h; cases h⟩

theorem GOk.rel {P : Program} {ng : Nat} {ρ : Ren} {gs : List (Nat × Tr AV)} {next : Nat} {w : World} (h : GOk ng ρ gs next w) : HRel P ng ρ (gHeap gs next) w where
  objs := fun p o L hp _ hL => by
    obtain ⟨q, h1, rfl, rfl⟩ := gTree_get hp
    exact h.objs q h1 L hL
  inj := fun p q L M hp hq hL hM e => by
    obtain ⟨o, ho, _⟩ := live_get' hp
    obtain ⟨o', ho', _⟩ := live_get' hq
    obtain ⟨a, a1, rfl, _⟩ := gTree_get ho
    obtain ⟨b, b1, rfl, _⟩ := gTree_get ho'
    rw [h.inj a a1 b b1 L M hL hM e]
  bound := fun p L hp => (h.names p L hp).2
  fresh := fun p hp => by
    cases hr : ρ p with
    | none => rfl
    | some L =>
      have := (h.names p L hr).1
      have hp : (key next).num ≤ p.num := hp
      rw [num_key] at hp
      omega
  globals := h.globals
  wf := fun p hp => by
    cases hl : (gHeap gs next).live p with
    | false => rfl
    | true =>
      obtain ⟨o, ho, _⟩ := live_get' hl
      obtain ⟨a, a1, rfl, _⟩ := gTree_get ho
      have := h.below a a1
      have hp : (key next).num ≤ (key a.1).num := hp
      rw [num_key, num_key] at hp
      omega
  loops := fun p o hp => by
    obtain ⟨q, h1, rfl, rfl⟩ := gTree_get hp
    trivial

theorem gHeap_ro {gs : List (Nat × Tr AV)} {next : Nat} (h : ∀ q ∈ gs, q.1 < next) : ROnlyG (gHeap gs next) := by
  intro p hp
  obtain ⟨o, ho, _⟩ := live_get' hp
  obtain ⟨a, a1, rfl, rfl⟩ := gTree_get ho
  have := h a a1
  refine ⟨?_, _, ho⟩
  show (key a.1).num < (key next).num
  rw [num_key, num_key]
  omega

/-- A table of integers. -/
def tabTree (c : Nat) (zs : List Int) : Tr AV := (treeOf (listA (zs.map (.int c)))).getD .leaf

theorem listA_list : ∀ (l : List AV), (listA l).isList = true ∧ ∀ i, (listA l).nth i = l[i]? := by
  intro l
  induction l with
  | nil => exact ⟨rfl, fun i => by cases i <;> rfl⟩
  | cons a l ih => exact ⟨ih.1, fun i => by cases i with | zero => rfl | succ i => simpa [listA, AV.nth] using ih.2 i⟩

theorem tabTree_get {c : Nat} {zs : List Int} {i : Nat} {v : AV} (h : (tabTree c zs).get (key i) = some v) : i < zs.length ∧ v = .int c (zs.getD i 0) := by
  unfold tabTree at h
  cases ht : treeOf (listA (zs.map (.int c))) with
  | none => rw [ht] at h; simp only [Option.getD_none] at h; rw [Tr.get_leaf] at h; cases h
  | some t =>
    rw [ht] at h
    simp only [Option.getD_some] at h
    obtain ⟨h1, h2, h3⟩ := putCells_get _ _ _ _ (show putCells .leaf 0 _ = some t from ht)
    obtain ⟨l1, l2⟩ := listA_list (zs.map (.int c))
    by_cases hi : i < zs.length
    · refine ⟨hi, ?_⟩
      have hn : (listA (zs.map (.int c))).nth i = some (.int c (zs.getD i 0)) := by rw [l2]; simp [hi, List.getD]
      have := (h2 i _ hn).1
      rw [Nat.zero_add, h] at this
      cases this
      rfl
    · exfalso
      have hl : (listA (zs.map (AV.int c))).len = zs.length := by
        clear h1 h2 h3 l1 l2 h ht hi
        induction zs with
        | nil => rfl
        | cons z zs ih => simp only [List.map_cons, listA, AV.len, List.length_cons, ih]
      have := h3 i (.inr (by rw [hl]; omega))
      rw [h, Tr.get_leaf] at this
      cases this

/-- The names of package-level variables alone. -/
def gRen (ng : Nat) : Ren := fun p => if p.num ≤ ng then some ⟨p.num - 1, 0, 0⟩ else none
theorem gRen_key {ng g : Nat} (h : g < ng) : gRen ng (key g) = some ⟨g, 0, 0⟩ := by unfold gRen; rw [num_key, if_pos (by omega)]; rfl
theorem gRen_some {ng : Nat} {p : Pos} {L : Loc} (h : gRen ng p = some L) : p.num ≤ ng ∧ L = ⟨p.num - 1, 0, 0⟩ := by
  unfold gRen at h
  split at h
  · cases h; exact ⟨by assumption, rfl⟩
  · cases h

/-- A start in which some variables hold tables of integers. -/
theorem GOk.tabs {ng : Nat} {w : World} (hw : ng ≤ w.heap.size) (ts : List (Nat × Nat × List Int)) (h : ∀ q ∈ ts, q.1 < ng ∧ q.2.1 < 8 ∧ q.2.2 ≠ [] ∧ ∀ i, i < q.2.2.length → w.cell? ⟨q.1, i, none⟩ = some (.int (kindOf q.2.1) (q.2.2.getD i 0))) :
    GOk ng (gRen ng) (ts.map fun q => (q.1, tabTree q.2.1 q.2.2)) ng w where
  names := fun p L hp => by obtain ⟨h1, rfl⟩ := gRen_some hp; have := p.num_pos; exact ⟨h1, by show p.num - 1 < _; omega⟩
  globals := fun g hg => ⟨0, gRen_key hg⟩
  below := fun q hq => by obtain ⟨a, ha, rfl⟩ := List.mem_map.1 hq; exact (h a ha).1
  objs := fun q hq L hL => by
    obtain ⟨a, ha, rfl⟩ := List.mem_map.1 hq
    obtain ⟨h1, h8, h2, h3⟩ := h a ha
    rw [gRen_key h1] at hL
    cases hL
    have h0 : 0 < a.2.2.length := List.length_pos_iff.2 h2
    have hc := h3 0 h0
    have hobj : ∃ c e fr, w.heap[a.1]? = some (.cells c e fr) := by
      unfold World.cell? at hc
      split at hc
      · rename_i c e fr he; exact ⟨c, e, fr, he⟩
      · cases hc
    obtain ⟨c, e, fr, he⟩ := hobj
    refine ⟨c, e, fr, he, fun i v hv => ?_⟩
    obtain ⟨hi, rfl⟩ := tabTree_get hv
    have := h3 i hi
    unfold World.cell? at this
    simp only [he] at this
    refine ⟨_, ?_, ⟨h8, rfl⟩, rfl⟩
    rw [Nat.zero_add]
    simpa using this
  inj := fun a ha b hb L M hL hM e => by
    obtain ⟨x, hx, rfl⟩ := List.mem_map.1 ha
    obtain ⟨y, hy, rfl⟩ := List.mem_map.1 hb
    rw [gRen_key (h x hx).1] at hL
    rw [gRen_key (h y hy).1] at hM
    cases hL
    cases hM
    exact e

/-- One variable besides holds an interface value with a pointer in it: of what that points at nothing is asked. -/
def ifTree (t n : Nat) : Tr AV := Tr.set (key 0) (.iface t (.ptr (key n) 0)) .leaf
def gRenI (ng b o : Nat) : Ren := fun p => if p = key ng then some ⟨b, o, 0⟩ else gRen ng p
theorem gRenI_key {ng b o g : Nat} (h : g < ng) : gRenI ng b o (key g) = some ⟨g, 0, 0⟩ := by
  unfold gRenI
  rw [if_neg (fun e => by have := key_inj e; omega)]
  exact gRen_key h
theorem ifTree_get {t n i : Nat} {v : AV} (h : (ifTree t n).get (key i) = some v) : i = 0 ∧ v = .iface t (.ptr (key n) 0) := by
  unfold ifTree at h
  rw [Tr.get_set] at h
  split at h
  · rename_i e
    have := key_inj e
    cases h
    exact ⟨by omega, rfl⟩
  · rw [Tr.get_leaf] at h; cases h
theorem GOk.tabsI {ng : Nat} {w : World} (hw : ng ≤ w.heap.size) (ts : List (Nat × Nat × List Int)) (h : ∀ q ∈ ts, q.1 < ng ∧ q.2.1 < 8 ∧ q.2.2 ≠ [] ∧ ∀ i, i < q.2.2.length → w.cell? ⟨q.1, i, none⟩ = some (.int (kindOf q.2.1) (q.2.2.getD i 0)))
    {g t b o : Nat} (hg : g < ng) (hb : b < w.heap.size) (hc : w.cell? ⟨g, 0, none⟩ = some (.iface t (.pointer (some ⟨b, o, none⟩)))) :
    GOk ng (gRenI ng b o) ((g, ifTree t ng) :: ts.map fun q => (q.1, tabTree q.2.1 q.2.2)) (ng + 1) w where
  names := fun p L hp => by
    unfold gRenI at hp
    split at hp
    · rename_i e
      cases hp
      subst e
      rw [num_key]
      exact ⟨Nat.le_refl _, hb⟩
    · have h1 := (GOk.tabs hw ts h).names p L hp
      exact ⟨Nat.le_succ_of_le h1.1, h1.2⟩
  globals := fun g hg => ⟨0, gRenI_key hg⟩
  below := fun q hq => by
    rcases List.mem_cons.1 hq with rfl | hq
    · show g < ng + 1; omega
    · have := (GOk.tabs hw ts h).below q hq
      omega
  objs := fun q hq L hL => by
    rcases List.mem_cons.1 hq with rfl | hq
    · rw [gRenI_key hg] at hL
      cases hL
      unfold World.cell? at hc
      split at hc
      · rename_i c e fr he
        refine ⟨c, e, fr, he, fun i v hv => ?_⟩
        obtain ⟨rfl, rfl⟩ := ifTree_get hv
        refine ⟨_, by simpa using hc, ⟨_, rfl, ⟨b, o, 0⟩, by unfold gRenI; rw [if_pos rfl], by simp⟩, rfl⟩
      · cases hc
    · have hlt : q.1 < ng := by obtain ⟨a, ha, rfl⟩ := List.mem_map.1 hq; exact (h a ha).1
      rw [gRenI_key hlt] at hL
      cases hL
      obtain ⟨c, e, fr, he, hcs⟩ := (GOk.tabs hw ts h).objs q hq _ (gRen_key hlt)
      refine ⟨c, e, fr, he, fun i v hv => ?_⟩
      obtain ⟨a, ha, rfl⟩ := List.mem_map.1 hq
      obtain ⟨x, hx, hr, hcell⟩ := hcs i v hv
      obtain ⟨hi, rfl⟩ := tabTree_get hv
      exact ⟨x, hx, hr, hcell⟩
  inj := fun a ha b' hb' L M hL hM e => by
    have lt : ∀ q, q ∈ ((g, ifTree t ng) :: ts.map fun q => (q.1, tabTree q.2.1 q.2.2)) → q.1 < ng := by
      intro q hq
      rcases List.mem_cons.1 hq with rfl | hq
      · exact hg
      · obtain ⟨a, ha, rfl⟩ := List.mem_map.1 hq; exact (h a ha).1
    rw [gRenI_key (lt a ha)] at hL
    rw [gRenI_key (lt b' hb')] at hM
    cases hL
    cases hM
    exact e

theorem cell_plain {w : World} {a : Addr} {v : Value} (h : w.cell? a = some v) : ∃ b o, a = ⟨b, o, none⟩ ∧ b < w.heap.size := by
  obtain ⟨b, o, sp⟩ := a
  unfold World.cell? at h
  split at h
  · rename_i c e fr hb
    split at h
    · cases h
    · rename_i hs
      refine ⟨b, o, ?_, (Array.getElem?_eq_some_iff.1 hb).1⟩
      cases sp with
      | none => rfl
      | some _ => simp at hs
  · cases h
/-- A variable more, of one cell. -/
theorem GOk.add {ng : Nat} {ρ : Ren} {gs : List (Nat × Tr AV)} {next : Nat} {w : World} (H : GOk ng ρ gs next w) {g : Nat} {v : AV} {x : Value} (hg : g < ng) (hn : g < next) (hlt : ∀ q ∈ gs, q.1 < ng)
    (hc : w.cell? ⟨g, 0, none⟩ = some x) (hr : RX ρ v [x]) (hv : isCell v = true) : GOk ng ρ ((g, Tr.set (key 0) v .leaf) :: gs) next w where
  names := H.names
  globals := H.globals
  below := fun q hq => by
    rcases List.mem_cons.1 hq with rfl | hq
    · exact hn
    · exact H.below q hq
  objs := fun q hq L hL => by
    rcases List.mem_cons.1 hq with rfl | hq
    · obtain ⟨sz, hs⟩ := H.globals g hg
      rw [hs] at hL
      cases hL
      unfold World.cell? at hc
      split at hc
      · rename_i c e fr he
        refine ⟨c, e, fr, he, fun i u hu => ?_⟩
        rw [Tr.get_set] at hu
        split at hu
        · rename_i e
          have e0 := key_inj e
          subst e0
          cases hu
          exact ⟨x, by simpa using hc, hr, hv⟩
        · rw [Tr.get_leaf] at hu; cases hu
      · cases hc
    · exact H.objs q hq L hL
  inj := fun a ha b hb L M hL hM e => by
    have lt : ∀ q, q ∈ ((g, Tr.set (key 0) v .leaf) :: gs) → q.1 < ng := by
      intro q hq
      rcases List.mem_cons.1 hq with rfl | hq
      · exact hg
      · exact hlt q hq
    obtain ⟨_, h1⟩ := H.globals _ (lt a ha)
    obtain ⟨_, h2⟩ := H.globals _ (lt b hb)
    rw [h1] at hL
    rw [h2] at hM
    cases hL
    cases hM
    exact e

/-- A name for an integer that comes in. -/
def symRen (ρ : Ren) (q : Pos) (v : Int) : Ren := fun p => if p = q then some ⟨0, v.toNat, (-v).toNat⟩ else ρ p
theorem GOk.out {ng : Nat} {ρ : Ren} {gs : List (Nat × Tr AV)} {next : Nat} {w : World} (H : GOk ng ρ gs next w) : ρ (key next) = none := by
  cases h : ρ (key next) with
  | none => rfl
  | some L => have := (H.names _ L h).1; rw [num_key] at this; omega
theorem GOk.symExt {ng : Nat} {ρ : Ren} {gs : List (Nat × Tr AV)} {next : Nat} {w : World} (H : GOk ng ρ gs next w) (v : Int) : Ext ρ (symRen ρ (key next) v) := fun p L h => by
  unfold symRen
  rw [if_neg (fun e => by rw [e, H.out] at h; cases h)]
  exact h
theorem symRen_ne {ρ : Ren} {n g : Nat} {v : Int} (h : g < n) : symRen ρ (key n) v (key g) = ρ (key g) := by
  unfold symRen
  rw [if_neg (fun e => by have := key_inj e; omega)]
theorem GOk.sym {ng : Nat} {ρ : Ren} {gs : List (Nat × Tr AV)} {next : Nat} {w : World} (H : GOk ng ρ gs next w) (hn : ng ≤ next) (h0 : 0 < w.heap.size) (v : Int) : GOk ng (symRen ρ (key next) v) gs (next + 1) w where
  names := fun p L hp => by
    unfold symRen at hp
    split at hp
    · rename_i e
      cases hp
      subst e
      rw [num_key]
      exact ⟨Nat.le_refl _, h0⟩
    · have := H.names p L hp; exact ⟨by omega, this.2⟩
  globals := fun g hg => by rw [symRen_ne (by omega)]; exact H.globals g hg
  below := fun q hq => by have := H.below q hq; omega
  objs := fun q hq L hL => by
    rw [symRen_ne (H.below q hq)] at hL
    obtain ⟨c, e, fr, h1, h2⟩ := H.objs q hq L hL
    refine ⟨c, e, fr, h1, fun i u hu => ?_⟩
    obtain ⟨x, h3, h4, h5⟩ := h2 i u hu
    exact ⟨x, h3, h4.mono (H.symExt v), h5⟩
  inj := fun a ha b hb L M hL hM e => by
    rw [symRen_ne (H.below a ha)] at hL
    rw [symRen_ne (H.below b hb)] at hM
    exact H.inj a ha b hb L M hL hM e
theorem RX.symIn {ρ : Ren} {q : Pos} {v lo hi : Int} (h1 : lo ≤ v) (h2 : v ≤ hi) : RX (symRen ρ q v) (.sym q lo hi) [.int .i64 v] := by
  have e : ((v.toNat : Nat) : Int) - ((-v).toNat : Nat) = v := by omega
  refine ⟨⟨0, v.toNat, (-v).toNat⟩, by unfold symRen; rw [if_pos rfl], ?_, ?_, ?_⟩ <;> simp only <;> rw [e]
  · exact h1
  · exact h2
  · rfl

/-- A handle of a type, as it lies in a variable. -/
theorem RX.handle {ρ : Ren} {nb sz rt e : Nat} (h : ρ (key nb) = some ⟨nb, 0, sz⟩) : RX ρ (.iface rt (.agg (.cons (.ptr (key nb) e) .nil))) [.iface rt (.agg #[.pointer (some ⟨nb, e, none⟩)])] :=
  ⟨_, rfl, _, rfl, rfl, _, _, rfl, ⟨_, h, by rw [Nat.zero_add]⟩, rfl⟩

/-- Two at once. -/
theorem both {a b : Bool} (h : a = true) (k : b = true) : (a && b) = true := by rw [h, k]; rfl
end Go.Dx
