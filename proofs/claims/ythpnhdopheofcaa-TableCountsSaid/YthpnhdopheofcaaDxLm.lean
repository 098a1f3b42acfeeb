import Derived.Test.YthpnhdopheofcaaDxRel
set_option linter.unusedSimpArgs false
set_option linter.unusedVariables false
namespace Go.Dx
def AV.toL : AV → List AV
 | .cons a r => a :: r.toL
 | _ => []
def AV.ofL : List AV → AV
 | [] => .nil
 | a :: r => .cons a (ofL r)
theorem AV.toL_ofL (l : List AV) : (AV.ofL l).toL = l := by induction l with
 | nil => rfl
 | cons a r ih => simp [AV.ofL, AV.toL, ih]
theorem AV.ofL_toL : ∀ (v : AV), v.isList = true → AV.ofL v.toL = v := by
 intro v
 induction v with
 | nil => intro _; rfl
 | cons a r _ ih => intro h; simp [AV.toL, AV.ofL, ih h]
 | _ => intro h; simp [AV.isList] at h
theorem AV.len_toL : ∀ (v : AV), v.len = v.toL.length := by
 intro v
 induction v with
 | cons a r _ ih => simp [AV.len, AV.toL, ih]
 | _ => rfl
theorem AV.len_ofL (l : List AV) : (AV.ofL l).len = l.length := by rw [AV.len_toL, AV.toL_ofL]
theorem AV.app_ofL : ∀ (l m : List AV), (AV.ofL l).app (AV.ofL m) = AV.ofL (l ++ m) := by
 intro l
 induction l with
 | nil => intro m; rfl
 | cons a r ih => intro m; simp [AV.ofL, AV.app, ih]
def overL (l : List AV) (off : Nat) (vs : List AV) : List AV := l.take off ++ vs ++ l.drop (off + vs.length)
theorem overL_length {l : List AV} {off : Nat} {vs : List AV} (h : off + vs.length ≤ l.length) : (overL l off vs).length = l.length := by
 simp [overL]; omega
theorem overL_get {l : List AV} {off : Nat} {vs : List AV} (h : off + vs.length ≤ l.length) (i : Nat) : (overL l off vs)[i]? = if i < off then l[i]? else if i < off + vs.length then vs[i - off]? else l[i]? := by
 unfold overL
 by_cases h1 : i < off
 ·rw [if_pos h1, List.append_assoc, List.getElem?_append_left (by simp; omega), List.getElem?_take_of_lt h1]
 ·rw [if_neg h1]
  by_cases h2 : i < off + vs.length
  ·rw [if_pos h2, List.getElem?_append_left (by simp; omega), List.getElem?_append_right (by simp; omega)]
   congr 1; simp; omega
  ·rw [if_neg h2, List.getElem?_append_right (by simp; omega), List.getElem?_drop]
   congr 1; simp; omega
inductive MB where
 | cells (l : List AV) (op : Bool)
 | map (es : ME) (clock : Nat)
 | dead
 | ro (l : List AV)
structure Mem where
 next : Pos
 get : Pos → Option MB
def BRel : AO → MB → Prop
 | .cells t n op, .cells l op' => op = op' ∧ n = l.length ∧ ∀ i, i < l.length → t.get (key i) = l[i]?
 | .map es c, .map es' c' => es = es' ∧ c = c'
 | .dead, .dead => True
 | .ro t, .ro l => ∀ i, i < l.length → t.get (key i) = l[i]?
 | _, _ => False
structure Sees (H : Heap) (M : Mem) : Prop where
 next : H.next = M.next
 at_ : ∀ p b, M.get p = some b → p.num < M.next.num ∧ ∃ o, H.get p = some o ∧ BRel o b
namespace Mem
def put (M : Mem) (p : Pos) (b : MB) : Mem := ⟨M.next, fun q => if q = p then some b else M.get q⟩
def new (M : Mem) (b : MB) : Mem := ⟨M.next.succ, fun q => if q = M.next then some b else M.get q⟩
def cell (M : Mem) (p : Pos) (off : Nat) : Option AV :=
 match M.get p with
 | some (.cells l _) => l[off]?
 | some (.ro l) => l[off]?
 | _ => none
def cellsAt (M : Mem) (p : Pos) (off n : Nat) : Option (List AV) :=
 match M.get p with
 | some (.cells l _) => if off + n ≤ l.length then some ((l.drop off).take n) else none
 | some (.ro l) => if off + n ≤ l.length then some ((l.drop off).take n) else none
 | _ => none
def closed (M : Mem) (p : Pos) : Bool :=
 match M.get p with
 | some (.cells _ false) => true
 | _ => false
def store (M : Mem) (p : Pos) (off : Nat) (vs : List AV) : Option Mem :=
 match M.get p with
 | some (.cells l op) => if off + vs.length ≤ l.length ∧ vs.all isCell = true then some (M.put p (.cells (overL l off vs) op)) else none
 | _ => none
def row (M : Mem) (vs : List AV) (op : Bool) : Option (Pos × Mem) := if vs.all isCell = true then some (M.next, M.new (.cells vs op)) else none
end Mem
theorem Heap.get_put' (H : Heap) (p : Pos) (o : AO) (q : Pos) : (H.put p o).get q = if q = p then some o else H.get q := by simp [Heap.put, Heap.get, Tr.get_set]
theorem Heap.get_new' (H : Heap) (o : AO) (q : Pos) : (H.new o).2.get q = if q = H.next then some o else H.get q := by simp [Heap.new, Heap.get, Tr.get_set]
section
variable {H : Heap} {M : Mem}
theorem Sees.put (h : Sees H M) {p : Pos} {o : AO} {b : MB} (hp : p.num < M.next.num) (hr : BRel o b) : Sees (H.put p o) (M.put p b) where
 next := h.next
 at_ := fun q c hq => by
  simp only [Mem.put] at hq
  rw [Heap.get_put']
  split at hq
  ·rename_i e; cases hq; rw [if_pos e]; exact ⟨by rw [e]; exact hp, o, rfl, hr⟩
  ·rename_i e; rw [if_neg e]; exact h.at_ q c hq
theorem Sees.new (h : Sees H M) {o : AO} {b : MB} (hr : BRel o b) : Sees (H.new o).2 (M.new b) where
 next := by show H.next.succ = M.next.succ; rw [h.next]
 at_ := fun q c hq => by
  simp only [Mem.new] at hq
  rw [Heap.get_new', h.next]
  show q.num < M.next.succ.num ∧ _
  rw [Pos.num_succ]
  split at hq
  ·rename_i e; cases hq; rw [if_pos e]; exact ⟨by rw [e]; omega, o, rfl, hr⟩
  ·rename_i e; rw [if_neg e]; have := h.at_ q c hq; exact ⟨by omega, this.2⟩
theorem Sees.less (h : Sees H M) {M' : Mem} (hn : M'.next = M.next) (hl : ∀ p b, M'.get p = some b → M.get p = some b) : Sees H M' :=
 ⟨h.next.trans hn.symm, fun p b hp => by rw [hn]; exact h.at_ p b (hl p b hp)⟩
theorem cellsFrom_some {t : Tr AV} : ∀ (n off : Nat) (l : List AV), (∀ i, i < n → t.get (key (off + i)) = l[i]?) → n = l.length → cellsFrom t off n = some (AV.ofL l) := by
 intro n
 induction n with
 | zero => intro off l _ hl; cases l with
  | nil => rfl
  | cons a r => simp at hl
 | succ n ih =>
  intro off l h hl
  cases l with
  | nil => simp at hl
  | cons a r =>
   have h0 := h 0 (by omega)
   simp at h0
   have := ih (off + 1) r (fun i hi => by have := h (i + 1) (by omega); simpa [Nat.add_assoc, Nat.add_comm 1 i] using this) (by simpa using hl)
   simp [cellsFrom, h0, this, AV.ofL]
theorem putCells_some : ∀ (vs : List AV) (t : Tr AV) (off : Nat), vs.all isCell = true → ∃ t', putCells t off (AV.ofL vs) = some t' ∧ ∀ i, t'.get (key i) = if off ≤ i ∧ i < off + vs.length then vs[i - off]? else t.get (key i) := by
 intro vs
 induction vs with
 | nil => intro t off _; exact ⟨t, rfl, fun i => by rw [if_neg (by simp; try omega)]⟩
 | cons a r ih =>
  intro t off h
  simp only [List.all_cons, Bool.and_eq_true] at h
  obtain ⟨t', h1, h2⟩ := ih (t.set (key off) a) (off + 1) h.2
  refine ⟨t', by simp [AV.ofL, putCells, h.1, h1], fun i => ?_⟩
  rw [h2, Tr.get_set]
  by_cases e : i = off
  ·subst e; rw [if_neg (by omega), if_pos rfl, if_pos (by simp)]; simp
  ·rw [if_neg (fun c => e (key_inj c))]
   by_cases h3 : off + 1 ≤ i ∧ i < off + 1 + r.length
   ·rw [if_pos h3, if_pos (by simp; omega)]
    have : i - off = (i - (off + 1)) + 1 := by omega
    rw [this]; rfl
   ·rw [if_neg h3, if_neg (by simp; omega)]
theorem Sees.cell (h : Sees H M) {p : Pos} {off : Nat} {v : AV} (hc : M.cell p off = some v) : H.cell p off = some v := by
 unfold Mem.cell at hc
 split at hc
 ·rename_i l op hp
  obtain ⟨_, o, ho, hr⟩ := h.at_ _ _ hp
  cases o with
  | cells t n op' =>
   obtain ⟨_, _, h3⟩ := hr
   unfold Heap.cell
   rw [ho]
   have hlt : off < l.length := by
    rcases Nat.lt_or_ge off l.length with h | h
    ·exact h
    ·rw [List.getElem?_eq_none h] at hc; cases hc
   simp only
   rw [h3 off hlt, hc]
  | _ => exact hr.elim
 ·rename_i l hp
  obtain ⟨_, o, ho, hr⟩ := h.at_ _ _ hp
  cases o with
  | ro t =>
   unfold Heap.cell
   rw [ho]
   have hlt : off < l.length := by
    rcases Nat.lt_or_ge off l.length with h | h
    ·exact h
    ·rw [List.getElem?_eq_none h] at hc; cases hc
   simp only
   rw [hr off hlt, hc]
  | _ => exact hr.elim
 ·cases hc
theorem Sees.cellsAt (h : Sees H M) {p : Pos} {off n : Nat} {l : List AV} (hc : M.cellsAt p off n = some l) : H.cellsAt p off n = some (AV.ofL l) ∧ l.length = n := by
 unfold Mem.cellsAt at hc
 split at hc
 ·rename_i l' op hp
  split at hc
  ·rename_i hle
   cases hc
   obtain ⟨_, o, ho, hr⟩ := h.at_ _ _ hp
   cases o with
   | cells t m op' =>
    obtain ⟨_, _, h3⟩ := hr
    unfold Heap.cellsAt
    rw [ho]
    refine ⟨cellsFrom_some n off _ (fun i hi => ?_) (by simp; omega), by simp; omega⟩
    rw [h3 _ (by omega), List.getElem?_take_of_lt hi, List.getElem?_drop]
   | _ => exact hr.elim
  ·cases hc
 ·rename_i l' hp
  split at hc
  ·rename_i hle
   cases hc
   obtain ⟨_, o, ho, hr⟩ := h.at_ _ _ hp
   cases o with
   | ro t =>
    unfold Heap.cellsAt
    rw [ho]
    refine ⟨cellsFrom_some n off _ (fun i hi => ?_) (by simp; omega), by simp; omega⟩
    rw [hr _ (by omega), List.getElem?_take_of_lt hi, List.getElem?_drop]
   | _ => exact hr.elim
  ·cases hc
 ·cases hc
theorem Sees.closed (h : Sees H M) {p : Pos} (hc : M.closed p = true) : H.closed p = true := by
 unfold Mem.closed at hc
 split at hc
 ·rename_i l hp
  obtain ⟨_, o, ho, hr⟩ := h.at_ _ _ hp
  cases o with
  | cells t n op' => obtain ⟨h1, _⟩ := hr; subst h1; unfold Heap.closed; rw [ho]
  | _ => exact hr.elim
 ·cases hc
theorem Sees.store (h : Sees H M) {p : Pos} {off : Nat} {vs : List AV} {M' : Mem} (hc : M.store p off vs = some M') : ∃ H', H.store p off (AV.ofL vs) = some H' ∧ Sees H' M' := by
 unfold Mem.store at hc
 split at hc
 ·rename_i l op hp
  split at hc
  ·rename_i hle
   cases hc
   obtain ⟨hlt, o, ho, hr⟩ := h.at_ _ _ hp
   cases o with
   | cells t n op' =>
    obtain ⟨h1, h2, h3⟩ := hr
    obtain ⟨t', k1, k2⟩ := putCells_some vs t off hle.2
    refine ⟨H.put p (.cells t' n op'), ?_, h.put hlt ⟨h1, by rw [overL_length hle.1]; exact h2, fun i hi => ?_⟩⟩
    ·unfold Heap.store
     rw [ho]
     simp only [AV.len_ofL]
     rw [if_pos (by omega), k1]; rfl
    ·rw [overL_length hle.1] at hi
     rw [k2, overL_get hle.1]
     by_cases c1 : i < off
     ·rw [if_neg (by omega), if_pos c1]; exact h3 i hi
     ·rw [if_neg c1]
      by_cases c2 : i < off + vs.length
      ·rw [if_pos ⟨by omega, c2⟩, if_pos c2]
      ·rw [if_neg (by omega), if_neg c2]; exact h3 i hi
   | _ => exact hr.elim
  ·cases hc
 ·cases hc
theorem Sees.row (h : Sees H M) {vs : List AV} {op : Bool} {p : Pos} {M' : Mem} (hc : M.row vs op = some (p, M')) : ∃ H', H.row (AV.ofL vs) op = some (p, H') ∧ Sees H' M' := by
 unfold Mem.row at hc
 split at hc
 ·rename_i hall
  cases hc
  obtain ⟨t', k1, k2⟩ := putCells_some vs .leaf 0 hall
  refine ⟨(H.new (.cells t' vs.length op)).2, ?_, h.new ⟨rfl, rfl, fun i hi => ?_⟩⟩
  ·unfold Heap.row treeOf
   rw [k1]
   simp only [Option.map_some, AV.len_ofL, Heap.new, h.next]
  ·rw [k2, if_pos (by omega)]; simp
 ·cases hc
end
end Go.Dx
