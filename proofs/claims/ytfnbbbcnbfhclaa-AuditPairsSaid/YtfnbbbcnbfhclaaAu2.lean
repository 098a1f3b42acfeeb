import Derived.Test.YtfnbbbcnbfhclaaFns
import Derived.Test.YtfnbbbcnbfhclaaDxLu
import Derived.Test.YtfnbbbcnbfhclaaDxLv
import Derived.Test.YtfnbbbcnbfhclaaDxLx
import Derived.Test.YtfnbbbcnbfhclaaDxLy
import Derived.Test.YtfnbbbcnbfhclaaDxAsl
set_option linter.unusedSimpArgs false
set_option linter.unusedVariables false
section
namespace Go.Proofs.Ytfnbbbcnbfhclaa
open Go.Dx
variable {tbl : Nat → Option CFunc}

theorem wrap64 {n : Int} (h1 : -(2 ^ 63) ≤ n) (h2 : n < 2 ^ 63) : IntKind.i64.wrap n = n := by
  unfold IntKind.wrap
  simp [IntKind.signed, IntKind.bits]
  omega
theorem wrap_succ {n : Nat} (h : n < 2 ^ 62) : IntKind.i64.wrap ((n : Int) + 1) = ((n + 1 : Nat) : Int) := by
  rw [wrap64 (by omega) (by omega)]; rfl

def IntL (l : List Int) : List (List AV) := l.map fun n => [.int 3 n]

theorem int_at {M : Mem} {a : AV} {l : List Int} (h : SlIs M a 1 (IntL l)) {i : Nat} (hi : i < l.length) : ∃ p o n, slAt a = some (p, o, n) ∧ i < n ∧ MB.cell (M.get p) (o + i * 1) = some (.int 3 (l[i]'hi)) := by
  obtain ⟨p, o, h1, h2⟩ := h.at_ (i := i) (by simpa [IntL] using hi)
  refine ⟨p, o, _, h1, by simpa [IntL] using hi, MB.cell_one ?_⟩
  rw [h2]
  simp [IntL, List.getElem?_eq_getElem hi]

theorem ints_spec (h : tbl 8 = some cf8) {a b : AV} {M : Mem} {l m : List Int} (ha : SlIs M a 1 (IntL l)) (hb : SlIs M b 1 (IntL m)) (hl : l.length < 2 ^ 62) :
    CallW tbl 8 (.cons a (.cons b .nil)) M fun r M' => r = .ret (.bool (decide (l = m))) ∧ M' = M := by
  refine CallW.intro h rfl (fr := .nod (.val .leaf a .leaf) (.val .leaf b .leaf)) rfl ?_
  have la : slLen a = some l.length := by rw [ha.len]; simp [IntL]
  have lb : slLen b = some m.length := by rw [hb.len]; simp [IntL]
  simp only [go_sem, reduceCtorEq, Nat.reduceEqDiff, Nat.reduceAdd, Nat.reduceMul, Nat.reduceLeDiff, Nat.reduceSub, Nat.reduceLT, Nat.reduceBEq, Nat.reduceBNe, Int.reduceBEq, Int.reduceBNe, Int.reduceLT, Int.reduceLE, Int.reduceAdd, Int.reduceEq, Int.reduceNe, beq_self_eq_true, bne_self_eq_false, decide_true, decide_false, Bool.not_true, Bool.not_false, Bool.false_eq_true, false_and, and_false, not_true_eq_false, not_false_eq_true, cf8, la, lb]
  refine cdK_b (fun hne => ?_) (fun heq => ?_)
  · have : l ≠ m := fun e => by rw [e] at hne; simp at hne
    simp only [go_sem, reduceCtorEq, Nat.reduceEqDiff, Nat.reduceAdd, Nat.reduceMul, Nat.reduceLeDiff, Nat.reduceSub, Nat.reduceLT, Nat.reduceBEq, Nat.reduceBNe, Int.reduceBEq, Int.reduceBNe, Int.reduceLT, Int.reduceLE, Int.reduceAdd, Int.reduceEq, Int.reduceNe, beq_self_eq_true, bne_self_eq_false, decide_true, decide_false, Bool.not_true, Bool.not_false, Bool.false_eq_true, false_and, and_false, not_true_eq_false, not_false_eq_true]
    simp [this]
  · have hlen : l.length = m.length := by
      have : (l.length : Int) = m.length := by simpa using heq
      omega
    simp only [go_sem, reduceCtorEq, Nat.reduceEqDiff, Nat.reduceAdd, Nat.reduceMul, Nat.reduceLeDiff, Nat.reduceSub, Nat.reduceLT, Nat.reduceBEq, Nat.reduceBNe, Int.reduceBEq, Int.reduceBNe, Int.reduceLT, Int.reduceLE, Int.reduceAdd, Int.reduceEq, Int.reduceNe, beq_self_eq_true, bne_self_eq_false, decide_true, decide_false, Bool.not_true, Bool.not_false, Bool.false_eq_true, false_and, and_false, not_true_eq_false, not_false_eq_true]
    refine loop_wp (I := fun n fr M' => ∃ i, i ≤ l.length ∧ n = l.length - i ∧ M' = M ∧ l.take i = m.take i ∧ fr.get (.o .h) = some a ∧ fr.get (.i .h) = some b ∧ fr.get (.i (.i .h)) = some (.int 3 (i : Nat))) (n := l.length) ?_ ?_
    · exact ⟨0, by omega, by omega, rfl, by simp, rfl, rfl, rfl⟩
    · rintro n fr M' ⟨i, hi, rfl, rfl, htk, f1, f2, f3⟩
      simp only [go_sem, reduceCtorEq, Nat.reduceEqDiff, Nat.reduceAdd, Nat.reduceMul, Nat.reduceLeDiff, Nat.reduceSub, Nat.reduceLT, Nat.reduceBEq, Nat.reduceBNe, Int.reduceBEq, Int.reduceBNe, Int.reduceLT, Int.reduceLE, Int.reduceAdd, Int.reduceEq, Int.reduceNe, beq_self_eq_true, bne_self_eq_false, decide_true, decide_false, Bool.not_true, Bool.not_false, Bool.false_eq_true, false_and, and_false, not_true_eq_false, not_false_eq_true, f1, f2, f3, la]
      refine cdK_b (fun hlt => ?_) (fun hge => ?_)
      · have hi' : i < l.length := by have := of_decide_eq_true hlt; omega
        obtain ⟨p, o, n, s1, k1, c1⟩ := int_at ha hi'
        obtain ⟨q, u, n', s2, k2, c2⟩ := int_at hb (hlen ▸ hi')
        simp only [go_sem, reduceCtorEq, Nat.reduceEqDiff, Nat.reduceAdd, Nat.reduceMul, Nat.reduceLeDiff, Nat.reduceSub, Nat.reduceLT, Nat.reduceBEq, Nat.reduceBNe, Int.reduceBEq, Int.reduceBNe, Int.reduceLT, Int.reduceLE, Int.reduceAdd, Int.reduceEq, Int.reduceNe, beq_self_eq_true, bne_self_eq_false, decide_true, decide_false, Bool.not_true, Bool.not_false, Bool.false_eq_true, false_and, and_false, not_true_eq_false, not_false_eq_true, f1, f2, f3, s1, k1, c1, s2, k2, c2]
        refine cdK_b (fun hne => ?_) (fun heq => ?_)
        · have : l ≠ m := fun e => by subst e; simp at hne
          simp only [go_sem, reduceCtorEq, Nat.reduceEqDiff, Nat.reduceAdd, Nat.reduceMul, Nat.reduceLeDiff, Nat.reduceSub, Nat.reduceLT, Nat.reduceBEq, Nat.reduceBNe, Int.reduceBEq, Int.reduceBNe, Int.reduceLT, Int.reduceLE, Int.reduceAdd, Int.reduceEq, Int.reduceNe, beq_self_eq_true, bne_self_eq_false, decide_true, decide_false, Bool.not_true, Bool.not_false, Bool.false_eq_true, false_and, and_false, not_true_eq_false, not_false_eq_true]
          simp [this]
        · simp only [go_sem, reduceCtorEq, Nat.reduceEqDiff, Nat.reduceAdd, Nat.reduceMul, Nat.reduceLeDiff, Nat.reduceSub, Nat.reduceLT, Nat.reduceBEq, Nat.reduceBNe, Int.reduceBEq, Int.reduceBNe, Int.reduceLT, Int.reduceLE, Int.reduceAdd, Int.reduceEq, Int.reduceNe, beq_self_eq_true, bne_self_eq_false, decide_true, decide_false, Bool.not_true, Bool.not_false, Bool.false_eq_true, false_and, and_false, not_true_eq_false, not_false_eq_true, f1, f2, f3]
          refine ⟨l.length - (i + 1), by omega, i + 1, by omega, rfl, rfl, ?_, ?_, ?_, ?_⟩
          · rw [List.take_succ_eq_append_getElem hi', List.take_succ_eq_append_getElem (hlen ▸ hi'), htk]
            congr 2
            simpa using heq
          all_goals simp [Tr.get_set, f1, f2, wrap_succ (show i < 2 ^ 62 by omega)]
      · have : i = l.length := by have := of_decide_eq_false hge; omega
        subst this
        rw [List.take_length, hlen, List.take_length] at htk
        simp only [go_sem, reduceCtorEq, Nat.reduceEqDiff, Nat.reduceAdd, Nat.reduceMul, Nat.reduceLeDiff, Nat.reduceSub, Nat.reduceLT, Nat.reduceBEq, Nat.reduceBNe, Int.reduceBEq, Int.reduceBNe, Int.reduceLT, Int.reduceLE, Int.reduceAdd, Int.reduceEq, Int.reduceNe, beq_self_eq_true, bne_self_eq_false, decide_true, decide_false, Bool.not_true, Bool.not_false, Bool.false_eq_true, false_and, and_false, not_true_eq_false, not_false_eq_true]
        simp [htk]

/-! Events. -/
structure Ev where
  k : Int
  n : Int
  tl : Nat
  tn : Nat
def EvR (e : Ev) : List AV := [.int 3 e.k, .int 3 e.n, .str e.tl e.tn]
def EvA (e : Ev) : AV := .agg (.cons (.int 3 e.k) (.cons (.int 3 e.n) (.cons (.str e.tl e.tn) .nil)))

/-- What came till now. -/
structure PS where
  now : Int
  fins : List Int
  ended : Bool
def PS.ok (s : PS) (e : Ev) : Bool :=
  if e.k = 4 then s.now == 0 && !decide (e.n < 1) && !s.fins.contains e.n
  else if e.k = 5 then !(s.now == 0) && s.now == e.n
  else if e.k = 2 ∨ e.k = 3 then !s.ended && e.n == 0
  else if e.k = 1 then (e.n == 0 && !s.ended) || (!(e.n == 0) && e.n == s.now)
  else false
def PS.go (s : PS) (e : Ev) : PS :=
  if s.ok e then
    if e.k = 4 then ⟨e.n, e.n :: s.fins, s.ended⟩
    else if e.k = 5 then ⟨0, s.fins, s.ended⟩
    else if e.k = 2 ∨ e.k = 3 then ⟨s.now, s.fins, true⟩
    else s
  else s

def intKey (a : AV) : Prop := ∃ n, a = .int 3 n
def finF (l : List Int) : AV → Option AV
  | .int _ n => if n ∈ l then some (.int 3 1) else none
  | _ => none
def PastIs (M : Mem) (pp mp : Pos) (s : PS) : Prop :=
  M.get pp = some (.cells [.int 3 s.now, .map mp, .bool s.ended] false) ∧ ∃ es c, M.get mp = some (.map es c) ∧ MapIs (.leaf .int) intKey es (finF s.fins)

theorem finF_cons (l : List Int) (n : Int) : ∀ a, intKey a → updF (finF l) (.int 3 n) (some (.int 3 1)) a = finF (n :: l) a := by
  rintro a ⟨m, rfl⟩
  by_cases h : m = n
  · subst h; rw [updF_same]; simp [finF]
  · rw [updF_ne _ _ (by simpa using h)]; simp [finF, h]

end Go.Proofs.Ytfnbbbcnbfhclaa

end
section
namespace Go.Proofs.Ytfnbbbcnbfhclaa
open Go.Dx
variable {tbl : Nat → Option CFunc}

set_option maxRecDepth 10000 in
theorem order_spec (h : tbl 24 = some cf24) {M : Mem} {pp mp : Pos} {s : PS} {e : Ev} (hp : PastIs M pp mp s) :
    CallW tbl 24 (.cons (.ptr pp 0) (.cons (EvA e) .nil)) M fun r M' => r = .ret (.bool (s.ok e)) ∧ PastIs M' pp mp (s.go e) ∧ But (fun p => p = pp ∨ p = mp) M M' := by
  refine CallW.wf fun hw => ?_
  obtain ⟨h1, es, c, h2, h3⟩ := hp
  obtain ⟨k, n, tl, tn⟩ := e
  have ne1 := hw.ne h1
  have ne2 := hw.ne h2
  have ne3 := hw.ne' h1
  have ne4 := hw.ne' h2
  have ne5 : (pp = mp) = False := eq_false fun e => by rw [e, h2] at h1; cases h1
  have ne6 : (mp = pp) = False := eq_false fun e => by rw [e, h1] at h2; cases h2
  have hf := h3.find (.int 3 n) ⟨n, rfl⟩
  have bn : ∀ b, But (fun p => p = pp ∨ p = mp) M (M.new b) := fun b => But.new hw b
  have bp : ∀ b b', But (fun p => p = pp ∨ p = mp) M ((M.new b).put pp b') := fun b b' => (bn b).trans (But.put _ (.inl rfl) _)
  have bm : ∀ b b' b'', But (fun p => p = pp ∨ p = mp) M (((M.new b).put mp b').put pp b'') := fun b b' b'' => ((bn b).trans (But.put _ (.inr rfl) _)).trans (But.put _ (.inl rfl) _)
  refine CallW.intro h rfl (fr := .nod (.val .leaf (.ptr pp 0) .leaf) (.val .leaf (EvA ⟨k, n, tl, tn⟩) .leaf)) rfl ?_
  have stay : ∀ (b : MB) (s' : PS), s' = s → PastIs (M.new b) pp mp s' := by
    rintro b s' rfl
    refine ⟨?_, es, c, ?_, h3⟩
    · simp only [go_sem, reduceCtorEq, Nat.reduceEqDiff, Nat.reduceAdd, Nat.reduceMul, Nat.reduceLeDiff, Nat.reduceSub, Nat.reduceLT, Nat.reduceBEq, Nat.reduceBNe, Int.reduceBEq, Int.reduceBNe, Int.reduceLT, Int.reduceLE, Int.reduceAdd, Int.reduceEq, Int.reduceNe, beq_self_eq_true, bne_self_eq_false, decide_true, decide_false, Bool.not_true, Bool.not_false, Bool.false_eq_true, false_and, and_false, not_true_eq_false, not_false_eq_true, ne1, h1]
    · simp only [go_sem, reduceCtorEq, Nat.reduceEqDiff, Nat.reduceAdd, Nat.reduceMul, Nat.reduceLeDiff, Nat.reduceSub, Nat.reduceLT, Nat.reduceBEq, Nat.reduceBNe, Int.reduceBEq, Int.reduceBNe, Int.reduceLT, Int.reduceLE, Int.reduceAdd, Int.reduceEq, Int.reduceNe, beq_self_eq_true, bne_self_eq_false, decide_true, decide_false, Bool.not_true, Bool.not_false, Bool.false_eq_true, false_and, and_false, not_true_eq_false, not_false_eq_true, ne2, h2]
  by_cases k4 : k = 4
  · subst k4
    by_cases a1 : s.now = 0
    · have f2 : (s.now != 0) = false := by simp [a1]
      by_cases a2 : n < 1
      · have f3 : decide (n < 1) = true := by simp [a2]
        simp only [go_sem, reduceCtorEq, Nat.reduceEqDiff, Nat.reduceAdd, Nat.reduceMul, Nat.reduceLeDiff, Nat.reduceSub, Nat.reduceLT, Nat.reduceBEq, Nat.reduceBNe, Int.reduceBEq, Int.reduceBNe, Int.reduceLT, Int.reduceLE, Int.reduceAdd, Int.reduceEq, Int.reduceNe, beq_self_eq_true, bne_self_eq_false, decide_true, decide_false, Bool.not_true, Bool.not_false, Bool.false_eq_true, false_and, and_false, not_true_eq_false, not_false_eq_true, cf24, EvA, h1, h2, ne1, ne2, ne3, ne4, ne5, ne6, hf, f2, f3]
        exact ⟨by simp [PS.ok, a2], stay _ _ (by simp [PS.go, PS.ok, a2]), bn _⟩
      · have f3 : decide (n < 1) = false := by simp [a2]
        by_cases a3 : n ∈ s.fins
        · have f4 : finF s.fins (.int 3 n) = some (.int 3 1) := by simp [finF, a3]
          simp only [go_sem, reduceCtorEq, Nat.reduceEqDiff, Nat.reduceAdd, Nat.reduceMul, Nat.reduceLeDiff, Nat.reduceSub, Nat.reduceLT, Nat.reduceBEq, Nat.reduceBNe, Int.reduceBEq, Int.reduceBNe, Int.reduceLT, Int.reduceLE, Int.reduceAdd, Int.reduceEq, Int.reduceNe, beq_self_eq_true, bne_self_eq_false, decide_true, decide_false, Bool.not_true, Bool.not_false, Bool.false_eq_true, false_and, and_false, not_true_eq_false, not_false_eq_true, cf24, EvA, h1, h2, ne1, ne2, ne3, ne4, ne5, ne6, hf, f2, f3, f4]
          exact ⟨by simp [PS.ok, a3], stay _ _ (by simp [PS.go, PS.ok, a3]), bn _⟩
        · have f4 : finF s.fins (.int 3 n) = none := by simp [finF, a3]
          obtain ⟨es', fr, hp1, hp2⟩ := h3.put (goodInt 3) (a := .int 3 n) (v := .int 3 1) ⟨n, rfl⟩ c
          have w1 : IntKind.i64.wrap 1 = 1 := by decide
          simp only [go_sem, reduceCtorEq, Nat.reduceEqDiff, Nat.reduceAdd, Nat.reduceMul, Nat.reduceLeDiff, Nat.reduceSub, Nat.reduceLT, Nat.reduceBEq, Nat.reduceBNe, Int.reduceBEq, Int.reduceBNe, Int.reduceLT, Int.reduceLE, Int.reduceAdd, Int.reduceEq, Int.reduceNe, beq_self_eq_true, bne_self_eq_false, decide_true, decide_false, Bool.not_true, Bool.not_false, Bool.false_eq_true, false_and, and_false, not_true_eq_false, not_false_eq_true, cf24, EvA, h1, h2, ne1, ne2, ne3, ne4, ne5, ne6, hf, f2, f3, f4, w1, hp1]
          have e : s.go ⟨4, n, tl, tn⟩ = ⟨n, n :: s.fins, s.ended⟩ := by simp [PS.go, PS.ok, a1, a2, a3]
          refine ⟨by simp [PS.ok, a1, a2, a3], ⟨?_, es', (if fr = true then c + 1 else c), ?_, ?_⟩, bm _ _ _⟩
          · rw [e]; simp only [go_sem, reduceCtorEq, Nat.reduceEqDiff, Nat.reduceAdd, Nat.reduceMul, Nat.reduceLeDiff, Nat.reduceSub, Nat.reduceLT, Nat.reduceBEq, Nat.reduceBNe, Int.reduceBEq, Int.reduceBNe, Int.reduceLT, Int.reduceLE, Int.reduceAdd, Int.reduceEq, Int.reduceNe, beq_self_eq_true, bne_self_eq_false, decide_true, decide_false, Bool.not_true, Bool.not_false, Bool.false_eq_true, false_and, and_false, not_true_eq_false, not_false_eq_true]
          · simp only [go_sem, reduceCtorEq, Nat.reduceEqDiff, Nat.reduceAdd, Nat.reduceMul, Nat.reduceLeDiff, Nat.reduceSub, Nat.reduceLT, Nat.reduceBEq, Nat.reduceBNe, Int.reduceBEq, Int.reduceBNe, Int.reduceLT, Int.reduceLE, Int.reduceAdd, Int.reduceEq, Int.reduceNe, beq_self_eq_true, bne_self_eq_false, decide_true, decide_false, Bool.not_true, Bool.not_false, Bool.false_eq_true, false_and, and_false, not_true_eq_false, not_false_eq_true, ne6]
          · rw [e]; exact hp2.congr (finF_cons _ _)
    · have f2 : (s.now != 0) = true := by simp [a1]
      simp only [go_sem, reduceCtorEq, Nat.reduceEqDiff, Nat.reduceAdd, Nat.reduceMul, Nat.reduceLeDiff, Nat.reduceSub, Nat.reduceLT, Nat.reduceBEq, Nat.reduceBNe, Int.reduceBEq, Int.reduceBNe, Int.reduceLT, Int.reduceLE, Int.reduceAdd, Int.reduceEq, Int.reduceNe, beq_self_eq_true, bne_self_eq_false, decide_true, decide_false, Bool.not_true, Bool.not_false, Bool.false_eq_true, false_and, and_false, not_true_eq_false, not_false_eq_true, cf24, EvA, h1, h2, ne1, ne2, ne3, ne4, ne5, ne6, hf, f2]
      exact ⟨by simp [PS.ok, a1], stay _ _ (by simp [PS.go, PS.ok, a1]), bn _⟩
  by_cases k5 : k = 5
  · subst k5
    by_cases a1 : s.now = 0
    · have f2 : (s.now == 0) = true := by simp [a1]
      simp only [go_sem, reduceCtorEq, Nat.reduceEqDiff, Nat.reduceAdd, Nat.reduceMul, Nat.reduceLeDiff, Nat.reduceSub, Nat.reduceLT, Nat.reduceBEq, Nat.reduceBNe, Int.reduceBEq, Int.reduceBNe, Int.reduceLT, Int.reduceLE, Int.reduceAdd, Int.reduceEq, Int.reduceNe, beq_self_eq_true, bne_self_eq_false, decide_true, decide_false, Bool.not_true, Bool.not_false, Bool.false_eq_true, false_and, and_false, not_true_eq_false, not_false_eq_true, cf24, EvA, h1, h2, ne1, ne2, ne3, ne4, ne5, ne6, hf, f2]
      exact ⟨by simp [PS.ok, a1], stay _ _ (by simp [PS.go, PS.ok, a1]), bn _⟩
    · have f2 : (s.now == 0) = false := by simp [a1]
      by_cases a2 : s.now = n
      · have f3 : (s.now != n) = false := by simp [a2]
        simp only [go_sem, reduceCtorEq, Nat.reduceEqDiff, Nat.reduceAdd, Nat.reduceMul, Nat.reduceLeDiff, Nat.reduceSub, Nat.reduceLT, Nat.reduceBEq, Nat.reduceBNe, Int.reduceBEq, Int.reduceBNe, Int.reduceLT, Int.reduceLE, Int.reduceAdd, Int.reduceEq, Int.reduceNe, beq_self_eq_true, bne_self_eq_false, decide_true, decide_false, Bool.not_true, Bool.not_false, Bool.false_eq_true, false_and, and_false, not_true_eq_false, not_false_eq_true, cf24, EvA, h1, h2, ne1, ne2, ne3, ne4, ne5, ne6, hf, f2, f3]
        have hn : n ≠ 0 := fun e => a1 (by rw [a2, e])
        have e : s.go ⟨5, n, tl, tn⟩ = ⟨0, s.fins, s.ended⟩ := by simp [PS.go, PS.ok, a2, hn]
        refine ⟨by simp [PS.ok, a2, hn], ⟨?_, es, c, ?_, ?_⟩, bp _ _⟩
        · rw [e]; simp only [go_sem, reduceCtorEq, Nat.reduceEqDiff, Nat.reduceAdd, Nat.reduceMul, Nat.reduceLeDiff, Nat.reduceSub, Nat.reduceLT, Nat.reduceBEq, Nat.reduceBNe, Int.reduceBEq, Int.reduceBNe, Int.reduceLT, Int.reduceLE, Int.reduceAdd, Int.reduceEq, Int.reduceNe, beq_self_eq_true, bne_self_eq_false, decide_true, decide_false, Bool.not_true, Bool.not_false, Bool.false_eq_true, false_and, and_false, not_true_eq_false, not_false_eq_true]
        · simp only [go_sem, reduceCtorEq, Nat.reduceEqDiff, Nat.reduceAdd, Nat.reduceMul, Nat.reduceLeDiff, Nat.reduceSub, Nat.reduceLT, Nat.reduceBEq, Nat.reduceBNe, Int.reduceBEq, Int.reduceBNe, Int.reduceLT, Int.reduceLE, Int.reduceAdd, Int.reduceEq, Int.reduceNe, beq_self_eq_true, bne_self_eq_false, decide_true, decide_false, Bool.not_true, Bool.not_false, Bool.false_eq_true, false_and, and_false, not_true_eq_false, not_false_eq_true, ne6, ne2, h2]
        · rw [e]; exact h3
      · have f3 : (s.now != n) = true := by simp [a2]
        simp only [go_sem, reduceCtorEq, Nat.reduceEqDiff, Nat.reduceAdd, Nat.reduceMul, Nat.reduceLeDiff, Nat.reduceSub, Nat.reduceLT, Nat.reduceBEq, Nat.reduceBNe, Int.reduceBEq, Int.reduceBNe, Int.reduceLT, Int.reduceLE, Int.reduceAdd, Int.reduceEq, Int.reduceNe, beq_self_eq_true, bne_self_eq_false, decide_true, decide_false, Bool.not_true, Bool.not_false, Bool.false_eq_true, false_and, and_false, not_true_eq_false, not_false_eq_true, cf24, EvA, h1, h2, ne1, ne2, ne3, ne4, ne5, ne6, hf, f2, f3]
        exact ⟨by simp [PS.ok, a2], stay _ _ (by simp [PS.go, PS.ok, a2]), bn _⟩
  by_cases k23 : k = 2 ∨ k = 3
  · have key : ∀ k : Int, (k = 2 ∨ k = 3) → ((s.ok ⟨k, n, tl, tn⟩ = (!s.ended && n == 0)) ∧ (s.go ⟨k, n, tl, tn⟩ = if !s.ended && n == 0 then ⟨s.now, s.fins, true⟩ else s)) := by
      rintro k (rfl | rfl) <;> constructor <;> simp [PS.ok, PS.go]
    obtain ⟨e1, e2⟩ := key k k23
    have fin : ∀ M', M' = M.new (.cells [.int 3 k, .int 3 n, .str tl tn] false) → ((!s.ended && n == 0) = false) → (CR.ret (AV.bool false) = CR.ret (AV.bool (s.ok ⟨k, n, tl, tn⟩)) ∧ PastIs M' pp mp (s.go ⟨k, n, tl, tn⟩) ∧ But (fun p => p = pp ∨ p = mp) M M') := by
      rintro M' rfl hb
      exact ⟨by rw [e1, hb], stay _ _ (by rw [e2, hb]; rfl), bn _⟩
    have fin2 : ∀ M', M' = (M.new (.cells [.int 3 k, .int 3 n, .str tl tn] false)).put pp (.cells [.int 3 s.now, .map mp, .bool true] false) → ((!s.ended && n == 0) = true) → (CR.ret (AV.bool true) = CR.ret (AV.bool (s.ok ⟨k, n, tl, tn⟩)) ∧ PastIs M' pp mp (s.go ⟨k, n, tl, tn⟩) ∧ But (fun p => p = pp ∨ p = mp) M M') := by
      rintro M' rfl hb
      refine ⟨by rw [e1, hb], ⟨?_, es, c, ?_, ?_⟩, bp _ _⟩
      · rw [e2, hb]; simp only [go_sem, reduceCtorEq, Nat.reduceEqDiff, Nat.reduceAdd, Nat.reduceMul, Nat.reduceLeDiff, Nat.reduceSub, Nat.reduceLT, Nat.reduceBEq, Nat.reduceBNe, Int.reduceBEq, Int.reduceBNe, Int.reduceLT, Int.reduceLE, Int.reduceAdd, Int.reduceEq, Int.reduceNe, beq_self_eq_true, bne_self_eq_false, decide_true, decide_false, Bool.not_true, Bool.not_false, Bool.false_eq_true, false_and, and_false, not_true_eq_false, not_false_eq_true]
      · simp only [go_sem, reduceCtorEq, Nat.reduceEqDiff, Nat.reduceAdd, Nat.reduceMul, Nat.reduceLeDiff, Nat.reduceSub, Nat.reduceLT, Nat.reduceBEq, Nat.reduceBNe, Int.reduceBEq, Int.reduceBNe, Int.reduceLT, Int.reduceLE, Int.reduceAdd, Int.reduceEq, Int.reduceNe, beq_self_eq_true, bne_self_eq_false, decide_true, decide_false, Bool.not_true, Bool.not_false, Bool.false_eq_true, false_and, and_false, not_true_eq_false, not_false_eq_true, ne6, ne2, h2]
      · rw [e2, hb]; exact h3
    rcases k23 with rfl | rfl <;> cases f2 : s.ended
    · by_cases a2 : n = 0
      · have f3 : (n != 0) = false := by simp [a2]
        rw [f2] at h1
        simp only [go_sem, reduceCtorEq, Nat.reduceEqDiff, Nat.reduceAdd, Nat.reduceMul, Nat.reduceLeDiff, Nat.reduceSub, Nat.reduceLT, Nat.reduceBEq, Nat.reduceBNe, Int.reduceBEq, Int.reduceBNe, Int.reduceLT, Int.reduceLE, Int.reduceAdd, Int.reduceEq, Int.reduceNe, beq_self_eq_true, bne_self_eq_false, decide_true, decide_false, Bool.not_true, Bool.not_false, Bool.false_eq_true, false_and, and_false, not_true_eq_false, not_false_eq_true, cf24, EvA, h1, h2, ne1, ne2, ne3, ne4, ne5, ne6, hf, f3]
        exact fin2 _ (by rfl) (by simp [f2, a2])
      · have f3 : (n != 0) = true := by simp [a2]
        rw [f2] at h1
        simp only [go_sem, reduceCtorEq, Nat.reduceEqDiff, Nat.reduceAdd, Nat.reduceMul, Nat.reduceLeDiff, Nat.reduceSub, Nat.reduceLT, Nat.reduceBEq, Nat.reduceBNe, Int.reduceBEq, Int.reduceBNe, Int.reduceLT, Int.reduceLE, Int.reduceAdd, Int.reduceEq, Int.reduceNe, beq_self_eq_true, bne_self_eq_false, decide_true, decide_false, Bool.not_true, Bool.not_false, Bool.false_eq_true, false_and, and_false, not_true_eq_false, not_false_eq_true, cf24, EvA, h1, h2, ne1, ne2, ne3, ne4, ne5, ne6, hf, f3]
        exact fin _ (by rfl) (by simp [a2])
    · rw [f2] at h1
      simp only [go_sem, reduceCtorEq, Nat.reduceEqDiff, Nat.reduceAdd, Nat.reduceMul, Nat.reduceLeDiff, Nat.reduceSub, Nat.reduceLT, Nat.reduceBEq, Nat.reduceBNe, Int.reduceBEq, Int.reduceBNe, Int.reduceLT, Int.reduceLE, Int.reduceAdd, Int.reduceEq, Int.reduceNe, beq_self_eq_true, bne_self_eq_false, decide_true, decide_false, Bool.not_true, Bool.not_false, Bool.false_eq_true, false_and, and_false, not_true_eq_false, not_false_eq_true, cf24, EvA, h1, h2, ne1, ne2, ne3, ne4, ne5, ne6, hf]
      exact fin _ (by rfl) (by simp [f2])
    · by_cases a2 : n = 0
      · have f3 : (n != 0) = false := by simp [a2]
        rw [f2] at h1
        simp only [go_sem, reduceCtorEq, Nat.reduceEqDiff, Nat.reduceAdd, Nat.reduceMul, Nat.reduceLeDiff, Nat.reduceSub, Nat.reduceLT, Nat.reduceBEq, Nat.reduceBNe, Int.reduceBEq, Int.reduceBNe, Int.reduceLT, Int.reduceLE, Int.reduceAdd, Int.reduceEq, Int.reduceNe, beq_self_eq_true, bne_self_eq_false, decide_true, decide_false, Bool.not_true, Bool.not_false, Bool.false_eq_true, false_and, and_false, not_true_eq_false, not_false_eq_true, cf24, EvA, h1, h2, ne1, ne2, ne3, ne4, ne5, ne6, hf, f3]
        exact fin2 _ (by rfl) (by simp [f2, a2])
      · have f3 : (n != 0) = true := by simp [a2]
        rw [f2] at h1
        simp only [go_sem, reduceCtorEq, Nat.reduceEqDiff, Nat.reduceAdd, Nat.reduceMul, Nat.reduceLeDiff, Nat.reduceSub, Nat.reduceLT, Nat.reduceBEq, Nat.reduceBNe, Int.reduceBEq, Int.reduceBNe, Int.reduceLT, Int.reduceLE, Int.reduceAdd, Int.reduceEq, Int.reduceNe, beq_self_eq_true, bne_self_eq_false, decide_true, decide_false, Bool.not_true, Bool.not_false, Bool.false_eq_true, false_and, and_false, not_true_eq_false, not_false_eq_true, cf24, EvA, h1, h2, ne1, ne2, ne3, ne4, ne5, ne6, hf, f3]
        exact fin _ (by rfl) (by simp [a2])
    · rw [f2] at h1
      simp only [go_sem, reduceCtorEq, Nat.reduceEqDiff, Nat.reduceAdd, Nat.reduceMul, Nat.reduceLeDiff, Nat.reduceSub, Nat.reduceLT, Nat.reduceBEq, Nat.reduceBNe, Int.reduceBEq, Int.reduceBNe, Int.reduceLT, Int.reduceLE, Int.reduceAdd, Int.reduceEq, Int.reduceNe, beq_self_eq_true, bne_self_eq_false, decide_true, decide_false, Bool.not_true, Bool.not_false, Bool.false_eq_true, false_and, and_false, not_true_eq_false, not_false_eq_true, cf24, EvA, h1, h2, ne1, ne2, ne3, ne4, ne5, ne6, hf]
      exact fin _ (by rfl) (by simp [f2])
  have k2 : k ≠ 2 := fun e => k23 (.inl e)
  have k3 : k ≠ 3 := fun e => k23 (.inr e)
  have g2 : (k == 2) = false := by simp [k2]
  have g3 : (k == 3) = false := by simp [k3]
  have g4 : (k == 4) = false := by simp [k4]
  have g5 : (k == 5) = false := by simp [k5]
  by_cases k1 : k = 1
  · subst k1
    by_cases a1 : n = 0
    · subst a1
      cases f2 : s.ended
      · rw [f2] at h1
        simp only [go_sem, reduceCtorEq, Nat.reduceEqDiff, Nat.reduceAdd, Nat.reduceMul, Nat.reduceLeDiff, Nat.reduceSub, Nat.reduceLT, Nat.reduceBEq, Nat.reduceBNe, Int.reduceBEq, Int.reduceBNe, Int.reduceLT, Int.reduceLE, Int.reduceAdd, Int.reduceEq, Int.reduceNe, beq_self_eq_true, bne_self_eq_false, decide_true, decide_false, Bool.not_true, Bool.not_false, Bool.false_eq_true, false_and, and_false, not_true_eq_false, not_false_eq_true, cf24, EvA, h1, h2, ne1, ne2, ne3, ne4, ne5, ne6]
        exact ⟨by simp [PS.ok, f2], stay _ _ (by simp [PS.go]), bn _⟩
      · rw [f2] at h1
        simp only [go_sem, reduceCtorEq, Nat.reduceEqDiff, Nat.reduceAdd, Nat.reduceMul, Nat.reduceLeDiff, Nat.reduceSub, Nat.reduceLT, Nat.reduceBEq, Nat.reduceBNe, Int.reduceBEq, Int.reduceBNe, Int.reduceLT, Int.reduceLE, Int.reduceAdd, Int.reduceEq, Int.reduceNe, beq_self_eq_true, bne_self_eq_false, decide_true, decide_false, Bool.not_true, Bool.not_false, Bool.false_eq_true, false_and, and_false, not_true_eq_false, not_false_eq_true, cf24, EvA, h1, h2, ne1, ne2, ne3, ne4, ne5, ne6]
        exact ⟨by simp [PS.ok, f2], stay _ _ (by simp [PS.go]), bn _⟩
    · have f3 : (n == 0) = false := by simp [a1]
      have f4 : (n != 0) = true := by simp [a1]
      simp only [go_sem, reduceCtorEq, Nat.reduceEqDiff, Nat.reduceAdd, Nat.reduceMul, Nat.reduceLeDiff, Nat.reduceSub, Nat.reduceLT, Nat.reduceBEq, Nat.reduceBNe, Int.reduceBEq, Int.reduceBNe, Int.reduceLT, Int.reduceLE, Int.reduceAdd, Int.reduceEq, Int.reduceNe, beq_self_eq_true, bne_self_eq_false, decide_true, decide_false, Bool.not_true, Bool.not_false, Bool.false_eq_true, false_and, and_false, not_true_eq_false, not_false_eq_true, cf24, EvA, h1, h2, ne1, ne2, ne3, ne4, ne5, ne6, f3, f4]
      exact ⟨by simp [PS.ok, f3], stay _ _ (by simp [PS.go]), bn _⟩
  · have g1 : (k == 1) = false := by simp [k1]
    simp only [go_sem, reduceCtorEq, Nat.reduceEqDiff, Nat.reduceAdd, Nat.reduceMul, Nat.reduceLeDiff, Nat.reduceSub, Nat.reduceLT, Nat.reduceBEq, Nat.reduceBNe, Int.reduceBEq, Int.reduceBNe, Int.reduceLT, Int.reduceLE, Int.reduceAdd, Int.reduceEq, Int.reduceNe, beq_self_eq_true, bne_self_eq_false, decide_true, decide_false, Bool.not_true, Bool.not_false, Bool.false_eq_true, false_and, and_false, not_true_eq_false, not_false_eq_true, cf24, EvA, h1, h2, ne1, ne2, ne3, ne4, ne5, ne6, g1, g2, g3, g4, g5]
    exact ⟨by simp [PS.ok, k1, k2, k3, k4, k5], stay _ _ (by simp [PS.go, k2, k3, k4, k5]), bn _⟩
end Go.Proofs.Ytfnbbbcnbfhclaa

end
section
namespace Go.Proofs.Ytfnbbbcnbfhclaa
open Go.Dx
variable {tbl : Nat → Option CFunc}

theorem PastIs.but {M M' : Mem} {pp mp : Pos} {s : PS} (h : PastIs M pp mp s) {S : Pos → Prop} (hb : But S M M') (h1 : ¬ S pp) (h2 : ¬ S mp) : PastIs M' pp mp s := by
  obtain ⟨a, es, c, b, d⟩ := h
  exact ⟨hb.get _ _ h1 a, es, c, hb.get _ _ h2 b, d⟩

theorem fins1_spec (h : tbl 23 = some cf23) (h24 : tbl 24 = some cf24) {M : Mem} {q pp mp : Pos} {s : PS} {e : Ev} {i : Int} {b : Bool} (hq : M.get q = some (.cells [.ptr pp 0] b)) (hp : PastIs M pp mp s) :
    CallW tbl 23 (.cons (.int 3 i) (.cons (EvA e) (.cons (.ptr q 0) .nil))) M fun r M' => r = .ret (.tuple (.cons (.int 3 i) (.cons (.bool (!s.ok e)) .nil))) ∧ PastIs M' pp mp (s.go e) ∧ But (fun p => p = pp ∨ p = mp) M M' := by
  refine CallW.wf fun hw => ?_
  have ne1 := hw.ne hq
  obtain ⟨k, n, tl, tn⟩ := e
  refine CallW.intro h rfl (fr := .nod (.val (.val .leaf (.ptr q 0) .leaf) (.int 3 i) .leaf) (.val .leaf (EvA ⟨k, n, tl, tn⟩) .leaf)) rfl ?_
  simp only [go_sem, reduceCtorEq, Nat.reduceEqDiff, Nat.reduceAdd, Nat.reduceMul, Nat.reduceLeDiff, Nat.reduceSub, Nat.reduceLT, Nat.reduceBEq, Nat.reduceBNe, Int.reduceBEq, Int.reduceBNe, Int.reduceLT, Int.reduceLE, Int.reduceAdd, Int.reduceEq, Int.reduceNe, beq_self_eq_true, bne_self_eq_false, decide_true, decide_false, Bool.not_true, Bool.not_false, Bool.false_eq_true, false_and, and_false, not_true_eq_false, not_false_eq_true, cf23, EvA, hq, ne1]
  have hb := But.new (S := fun _ => False) hw (.cells [.int 3 k, .int 3 n, .str tl tn] false)
  refine (order_spec h24 (e := ⟨k, n, tl, tn⟩) (hp.but hb id id)).use ?_
  rintro r M' hw' ⟨rfl, k1, k2⟩
  simp only [go_sem, reduceCtorEq, Nat.reduceEqDiff, Nat.reduceAdd, Nat.reduceMul, Nat.reduceLeDiff, Nat.reduceSub, Nat.reduceLT, Nat.reduceBEq, Nat.reduceBNe, Int.reduceBEq, Int.reduceBNe, Int.reduceLT, Int.reduceLE, Int.reduceAdd, Int.reduceEq, Int.reduceNe, beq_self_eq_true, bne_self_eq_false, decide_true, decide_false, Bool.not_true, Bool.not_false, Bool.false_eq_true, false_and, and_false, not_true_eq_false, not_false_eq_true]
  exact ⟨k1, (hb.mono (fun _ h => h.elim)).trans k2⟩

/-- The places of those that are not in order. -/
def finsL : PS → List Ev → Nat → List Int
  | _, [], _ => []
  | s, e :: r, i => if s.ok e then finsL (s.go e) r (i + 1) else (i : Int) :: finsL (s.go e) r (i + 1)

def EvL (l : List Ev) : List (List AV) := l.map EvR
theorem ev_at {M : Mem} {a : AV} {l : List Ev} (h : SlIs M a 3 (EvL l)) {i : Nat} (hi : i < l.length) : ∃ p o n, slAt a = some (p, o, n) ∧ i < n ∧ MB.cellsAt (M.get p) (o + i * 3) 3 = some (EvR (l[i]'hi)) := by
  obtain ⟨p, o, h1, h2⟩ := h.at_ (i := i) (by simpa [EvL] using hi)
  refine ⟨p, o, _, h1, by simpa [EvL] using hi, ?_⟩
  rw [h2]
  simp [EvL, List.getElem?_eq_getElem hi]

set_option maxRecDepth 10000 in
theorem picked_int (h : tbl 22 = some cf22) (h23 : tbl 23 = some cf23) (h24 : tbl 24 = some cf24) {M : Mem} {a : AV} {l : List Ev} {q pp mp : Pos} {s : PS} {b : Bool} (ha : SlIs M a 3 (EvL l)) (hl : l.length ≤ 1000) (hq : M.get q = some (.cells [.ptr pp 0] b)) (hqp : q ≠ pp ∧ q ≠ mp) (hp : PastIs M pp mp s)
    (hpl : l ≠ [] → ∀ p o n, slAt a = some (p, o, n) → p ≠ pp ∧ p ≠ mp) :
    CallW tbl 22 (.cons a (.cons (.func (.func 23) .nil (.cons (.ptr q 0) .nil)) .nil)) M fun r M' => ∃ v, r = .ret v ∧ OwnSl M' v 1 (IntL (finsL s l 0)) ∧ But (fun p => p = pp ∨ p = mp) M M' := by
  refine CallW.wf fun hw => ?_
  have la : slLen a = some l.length := by rw [ha.len]; simp [EvL]
  refine CallW.intro h rfl (fr := .nod (.val .leaf a .leaf) (.val .leaf (.func (.func 23) .nil (.cons (.ptr q 0) .nil)) .leaf)) rfl ?_
  simp only [go_sem, reduceCtorEq, Nat.reduceEqDiff, Nat.reduceAdd, Nat.reduceMul, Nat.reduceLeDiff, Nat.reduceSub, Nat.reduceLT, Nat.reduceBEq, Nat.reduceBNe, Int.reduceBEq, Int.reduceBNe, Int.reduceLT, Int.reduceLE, Int.reduceAdd, Int.reduceEq, Int.reduceNe, beq_self_eq_true, bne_self_eq_false, decide_true, decide_false, Bool.not_true, Bool.not_false, Bool.false_eq_true, false_and, and_false, not_true_eq_false, not_false_eq_true, cf22, la]
  refine loop_wp (I := fun n fr M' => ∃ (i : Nat) (o : AV) (ol : List Int) (st : PS), i ≤ l.length ∧ n = l.length - i ∧ M'.wf ∧ But (fun p => p = pp ∨ p = mp ∨ M.next.num ≤ p.num) M M' ∧ PastIs M' pp mp st ∧ OwnSl M' o 1 (IntL ol) ∧ (∀ p, ownP o p → M.next.num ≤ p.num) ∧ ol.length ≤ i ∧
      ol ++ finsL st (l.drop i) i = finsL s l 0 ∧ fr.get (.i .h) = some (.func (.func 23) .nil (.cons (.ptr q 0) .nil)) ∧ fr.get (.i (.i .h)) = some o ∧ fr.get (.o (.o (.i .h))) = some a ∧ fr.get (.i (.o (.i .h))) = some (.int 3 l.length) ∧ fr.get (.o (.i (.i .h))) = some (.int 3 i)) (n := l.length) ?_ ?_
  · exact ⟨0, .nilslice, [], s, by omega, by omega, hw, But.refl _ _, hp, OwnSl.nil _ _, (fun p hp => by obtain ⟨n, s, e⟩ := hp; cases e), by simp, by simp, rfl, rfl, rfl, rfl, rfl⟩
  · rintro n fr M' ⟨i, o, ol, st, hi, rfl, hw', hB, hP, hO, hof, hol, hres, f1, f2, f3, f4, f5⟩
    simp only [go_sem, reduceCtorEq, Nat.reduceEqDiff, Nat.reduceAdd, Nat.reduceMul, Nat.reduceLeDiff, Nat.reduceSub, Nat.reduceLT, Nat.reduceBEq, Nat.reduceBNe, Int.reduceBEq, Int.reduceBNe, Int.reduceLT, Int.reduceLE, Int.reduceAdd, Int.reduceEq, Int.reduceNe, beq_self_eq_true, bne_self_eq_false, decide_true, decide_false, Bool.not_true, Bool.not_false, Bool.false_eq_true, false_and, and_false, not_true_eq_false, not_false_eq_true, f1, f2, f3, f4, f5]
    refine cdK_b (fun hlt => ?_) (fun hge => ?_)
    · have hi' : i < l.length := by have := of_decide_eq_true hlt; omega
      have hne : EvL l ≠ [] := by intro e; have := congrArg List.length e; simp [EvL] at this; rw [this] at hi'; simp at hi'
      have hS : ∀ p' o' n', slAt a = some (p', o', n') → ¬ (p' = pp ∨ p' = mp ∨ M.next.num ≤ p'.num) := fun p' o' n' h' => by
        have h1 := hpl (fun e => by rw [e] at hi'; simp at hi') _ _ _ h'
        have h2 := ha.lt hw hne h'
        rintro (e | e | e)
        · exact h1.1 e
        · exact h1.2 e
        · omega
      have hqS : ¬ (q = pp ∨ q = mp ∨ M.next.num ≤ q.num) := by
        have := hw _ _ hq
        rintro (e | e | e)
        · exact hqp.1 e
        · exact hqp.2 e
        · omega
      have ha' := ha.but hB hS
      have hq' := hB.get _ _ hqS hq
      obtain ⟨p, po, pn, s1, k1, c1⟩ := ev_at ha' hi'
      simp only [go_sem, reduceCtorEq, Nat.reduceEqDiff, Nat.reduceAdd, Nat.reduceMul, Nat.reduceLeDiff, Nat.reduceSub, Nat.reduceLT, Nat.reduceBEq, Nat.reduceBNe, Int.reduceBEq, Int.reduceBNe, Int.reduceLT, Int.reduceLE, Int.reduceAdd, Int.reduceEq, Int.reduceNe, beq_self_eq_true, bne_self_eq_false, decide_true, decide_false, Bool.not_true, Bool.not_false, Bool.false_eq_true, false_and, and_false, not_true_eq_false, not_false_eq_true, f1, f2, f3, f4, f5, s1, k1, c1, EvR]
      have hf := But.fill hw' (.cells [.int 3 0, .int 3 0, .str 0 0] false) (.cells [.int 3 l[i].k, .int 3 l[i].n, .str l[i].tl l[i].tn] false)
      have hwf := hw'.fill (.cells [.int 3 0, .int 3 0, .str 0 0] false) (.cells [.int 3 l[i].k, .int 3 l[i].n, .str l[i].tl l[i].tn] false)
      refine (fins1_spec h23 h24 (e := l[i]) (s := st) (hf.get _ _ id hq') (hP.but hf id id)).use ?_
      rintro r M2 hw2 ⟨rfl, hP2, hB2⟩
      have hB3 : But (fun p => p = pp ∨ p = mp ∨ M.next.num ≤ p.num) M M2 := (hB.trans (hf.mono fun _ h => h.elim)).trans (hB2.mono fun p h => h.elim .inl (fun h => .inr (.inl h)))
      have own2 : ∀ p, ownP o p → ¬ (p = pp ∨ p = mp) := fun p ho h => by
        obtain ⟨es, c, hm, _⟩ := hp.2
        have h1 := hof p ho
        rcases h with rfl | rfl
        · have := hw _ _ hp.1; omega
        · have := hw _ _ hm; omega
      have hO2 : OwnSl M2 o 1 (IntL ol) := (hO.old hf fun _ _ => id).old hB2 own2
      cases hok : st.ok l[i] with
      | true =>
        simp only [go_sem, reduceCtorEq, Nat.reduceEqDiff, Nat.reduceAdd, Nat.reduceMul, Nat.reduceLeDiff, Nat.reduceSub, Nat.reduceLT, Nat.reduceBEq, Nat.reduceBNe, Int.reduceBEq, Int.reduceBNe, Int.reduceLT, Int.reduceLE, Int.reduceAdd, Int.reduceEq, Int.reduceNe, beq_self_eq_true, bne_self_eq_false, decide_true, decide_false, Bool.not_true, Bool.not_false, Bool.false_eq_true, false_and, and_false, not_true_eq_false, not_false_eq_true, f1, f2, f3, f4, f5]
        refine ⟨l.length - (i + 1), by omega, i + 1, o, ol, st.go l[i], by omega, rfl, hw2, hB3, hP2, hO2, hof, by omega, ?_, ?_, ?_, ?_, ?_, ?_⟩
        · rw [← hres, List.drop_eq_getElem_cons hi']; simp [finsL, hok]
        all_goals simp [Tr.get_set, f1, f2, f3, f4, f5, wrap_succ (show i < 2 ^ 62 by omega)]
      | false =>
        have hw3 := hw2.new (.cells [.int 3 (i : Int)] false)
        have hB4 := But.new (S := fun _ => False) hw2 (.cells [.int 3 (i : Int)] false)
        obtain ⟨v', M4, e4, hO4, hB5, hw4, hof4⟩ := (hO2.old hB4 fun _ _ => id).append hw3 (x := [.int 3 (i : Int)]) rfl rfl (by omega) (by simp [IntL, most]; omega) (by intro y hy; simp [IntL] at hy; obtain ⟨z, _, rfl⟩ := hy; rfl)
        have e5 : appO (M2.new (.cells [.int 3 (i : Int)] false)) 1 o (.slice M2.next 0 1 1) = some (v', M4) := by
          rw [appO_one (x := [.int 3 (i : Int)]) (size := 1) (op := false) (by simp [Mem.new]) rfl (by omega)]; exact e4
        simp only [go_sem, reduceCtorEq, Nat.reduceEqDiff, Nat.reduceAdd, Nat.reduceMul, Nat.reduceLeDiff, Nat.reduceSub, Nat.reduceLT, Nat.reduceBEq, Nat.reduceBNe, Int.reduceBEq, Int.reduceBNe, Int.reduceLT, Int.reduceLE, Int.reduceAdd, Int.reduceEq, Int.reduceNe, beq_self_eq_true, bne_self_eq_false, decide_true, decide_false, Bool.not_true, Bool.not_false, Bool.false_eq_true, false_and, and_false, not_true_eq_false, not_false_eq_true, f1, f2, f3, f4, f5, e5]
        have hP4 : PastIs M4 pp mp (st.go l[i]) := (hP2.but hB4 id id).but hB5 (fun h => own2 _ h (.inl rfl)) (fun h => own2 _ h (.inr rfl))
        refine ⟨l.length - (i + 1), by omega, i + 1, v', ol ++ [(i : Int)], st.go l[i], by omega, rfl, hw4, ?_, hP4, ?_, ?_, by simp; omega, ?_, ?_, ?_, ?_, ?_, ?_⟩
        · exact (hB3.trans (hB4.mono fun _ h => h.elim)).trans (hB5.mono fun p h => .inr (.inr (hof p h)))
        · simpa [IntL] using hO4
        · intro p h
          have h1 := hof4 p h
          have h2 := hB3.next
          have h3 := hB4.next
          omega
        · rw [← hres, List.drop_eq_getElem_cons hi']; simp [finsL, hok]
        all_goals simp [Tr.get_set, f1, f2, f3, f4, f5, wrap_succ (show i < 2 ^ 62 by omega)]
    · have : i = l.length := by have := of_decide_eq_false hge; omega
      subst this
      simp only [go_sem, reduceCtorEq, Nat.reduceEqDiff, Nat.reduceAdd, Nat.reduceMul, Nat.reduceLeDiff, Nat.reduceSub, Nat.reduceLT, Nat.reduceBEq, Nat.reduceBNe, Int.reduceBEq, Int.reduceBNe, Int.reduceLT, Int.reduceLE, Int.reduceAdd, Int.reduceEq, Int.reduceNe, beq_self_eq_true, bne_self_eq_false, decide_true, decide_false, Bool.not_true, Bool.not_false, Bool.false_eq_true, false_and, and_false, not_true_eq_false, not_false_eq_true, f1, f2, f3, f4, f5]
      refine ⟨o, rfl, ?_, ?_⟩
      · have hres' : ol = finsL s l 0 := by simpa [finsL] using hres
        rw [← hres']; exact hO
      · refine But.fresh hw (hB.mono fun p h => ?_)
        rcases h with h | h | h
        · exact .inl (.inl h)
        · exact .inl (.inr h)
        · exact .inr h

/-- The texts told with a mark. -/
def outsL (mark : Int) : List Ev → List (Nat × Nat)
  | [] => []
  | e :: r => if e.k == 1 && e.n == mark then (e.tl, e.tn) :: outsL mark r else outsL mark r
def StrL (l : List (Nat × Nat)) : List (List AV) := l.map fun x => [.str x.1 x.2]

theorem outs1_spec (h : tbl 26 = some cf26) {M : Mem} {q : Pos} {e : Ev} {i mark : Int} {b : Bool} (hq : M.get q = some (.cells [.int 3 mark] b)) :
    CallW tbl 26 (.cons (.int 3 i) (.cons (EvA e) (.cons (.ptr q 0) .nil))) M fun r M' => r = .ret (.tuple (.cons (.str e.tl e.tn) (.cons (.bool (e.k == 1 && e.n == mark)) .nil))) ∧ But (fun _ => False) M M' := by
  refine CallW.wf fun hw => ?_
  have ne1 := hw.ne hq
  obtain ⟨k, n, tl, tn⟩ := e
  refine CallW.intro h rfl (fr := .nod (.val (.val .leaf (.ptr q 0) .leaf) (.int 3 i) .leaf) (.val .leaf (EvA ⟨k, n, tl, tn⟩) .leaf)) rfl ?_
  have hb := But.new (S := fun _ => False) hw (.cells [.int 3 k, .int 3 n, .str tl tn] false)
  cases hk : k == 1 with
  | true =>
    simp only [go_sem, reduceCtorEq, Nat.reduceEqDiff, Nat.reduceAdd, Nat.reduceMul, Nat.reduceLeDiff, Nat.reduceSub, Nat.reduceLT, Nat.reduceBEq, Nat.reduceBNe, Int.reduceBEq, Int.reduceBNe, Int.reduceLT, Int.reduceLE, Int.reduceAdd, Int.reduceEq, Int.reduceNe, beq_self_eq_true, bne_self_eq_false, decide_true, decide_false, Bool.not_true, Bool.not_false, Bool.false_eq_true, false_and, and_false, not_true_eq_false, not_false_eq_true, cf26, EvA, hq, ne1, hk]
    first | exact hb | exact ⟨rfl, hb⟩
  | false =>
    simp only [go_sem, reduceCtorEq, Nat.reduceEqDiff, Nat.reduceAdd, Nat.reduceMul, Nat.reduceLeDiff, Nat.reduceSub, Nat.reduceLT, Nat.reduceBEq, Nat.reduceBNe, Int.reduceBEq, Int.reduceBNe, Int.reduceLT, Int.reduceLE, Int.reduceAdd, Int.reduceEq, Int.reduceNe, beq_self_eq_true, bne_self_eq_false, decide_true, decide_false, Bool.not_true, Bool.not_false, Bool.false_eq_true, false_and, and_false, not_true_eq_false, not_false_eq_true, cf26, EvA, hq, ne1, hk]
    first | exact hb | exact ⟨rfl, hb⟩

set_option maxRecDepth 10000 in
theorem picked_str (h : tbl 25 = some cf25) (h26 : tbl 26 = some cf26) {M : Mem} {a : AV} {l : List Ev} {q : Pos} {mark : Int} {b : Bool} (ha : SlIs M a 3 (EvL l)) (hl : l.length ≤ 1000) (hq : M.get q = some (.cells [.int 3 mark] b)) :
    CallW tbl 25 (.cons a (.cons (.func (.func 26) .nil (.cons (.ptr q 0) .nil)) .nil)) M fun r M' => ∃ v, r = .ret v ∧ OwnSl M' v 1 (StrL (outsL mark l)) ∧ But (fun _ => False) M M' := by
  refine CallW.wf fun hw => ?_
  have la : slLen a = some l.length := by rw [ha.len]; simp [EvL]
  refine CallW.intro h rfl (fr := .nod (.val .leaf a .leaf) (.val .leaf (.func (.func 26) .nil (.cons (.ptr q 0) .nil)) .leaf)) rfl ?_
  simp only [go_sem, reduceCtorEq, Nat.reduceEqDiff, Nat.reduceAdd, Nat.reduceMul, Nat.reduceLeDiff, Nat.reduceSub, Nat.reduceLT, Nat.reduceBEq, Nat.reduceBNe, Int.reduceBEq, Int.reduceBNe, Int.reduceLT, Int.reduceLE, Int.reduceAdd, Int.reduceEq, Int.reduceNe, beq_self_eq_true, bne_self_eq_false, decide_true, decide_false, Bool.not_true, Bool.not_false, Bool.false_eq_true, false_and, and_false, not_true_eq_false, not_false_eq_true, cf25, la]
  refine loop_wp (I := fun n fr M' => ∃ (i : Nat) (o : AV) (ol : List (Nat × Nat)), i ≤ l.length ∧ n = l.length - i ∧ M'.wf ∧ But (fun p => M.next.num ≤ p.num) M M' ∧ OwnSl M' o 1 (StrL ol) ∧ (∀ p, ownP o p → M.next.num ≤ p.num) ∧ ol.length ≤ i ∧
      ol ++ outsL mark (l.drop i) = outsL mark l ∧ fr.get (.i .h) = some (.func (.func 26) .nil (.cons (.ptr q 0) .nil)) ∧ fr.get (.i (.i .h)) = some o ∧ fr.get (.o (.o (.i .h))) = some a ∧ fr.get (.i (.o (.i .h))) = some (.int 3 l.length) ∧ fr.get (.o (.i (.i .h))) = some (.int 3 i)) (n := l.length) ?_ ?_
  · exact ⟨0, .nilslice, [], by omega, by omega, hw, But.refl _ _, OwnSl.nil _ _, (fun p hp => by obtain ⟨n, s, e⟩ := hp; cases e), by simp, by simp, rfl, rfl, rfl, rfl, rfl⟩
  · rintro n fr M' ⟨i, o, ol, hi, rfl, hw', hB, hO, hof, hol, hres, f1, f2, f3, f4, f5⟩
    simp only [go_sem, reduceCtorEq, Nat.reduceEqDiff, Nat.reduceAdd, Nat.reduceMul, Nat.reduceLeDiff, Nat.reduceSub, Nat.reduceLT, Nat.reduceBEq, Nat.reduceBNe, Int.reduceBEq, Int.reduceBNe, Int.reduceLT, Int.reduceLE, Int.reduceAdd, Int.reduceEq, Int.reduceNe, beq_self_eq_true, bne_self_eq_false, decide_true, decide_false, Bool.not_true, Bool.not_false, Bool.false_eq_true, false_and, and_false, not_true_eq_false, not_false_eq_true, f1, f2, f3, f4, f5]
    refine cdK_b (fun hlt => ?_) (fun hge => ?_)
    · have hi' : i < l.length := by have := of_decide_eq_true hlt; omega
      have hne : EvL l ≠ [] := by intro e; have := congrArg List.length e; simp [EvL] at this; rw [this] at hi'; simp at hi'
      have hS : ∀ p' o' n', slAt a = some (p', o', n') → ¬ (M.next.num ≤ p'.num) := fun p' o' n' h' => by
        have h2 := ha.lt hw hne h'
        omega
      have hqS : ¬ (M.next.num ≤ q.num) := by
        have := hw _ _ hq
        omega
      have ha' := ha.but hB hS
      have hq' := hB.get _ _ hqS hq
      obtain ⟨p, po, pn, s1, k1, c1⟩ := ev_at ha' hi'
      simp only [go_sem, reduceCtorEq, Nat.reduceEqDiff, Nat.reduceAdd, Nat.reduceMul, Nat.reduceLeDiff, Nat.reduceSub, Nat.reduceLT, Nat.reduceBEq, Nat.reduceBNe, Int.reduceBEq, Int.reduceBNe, Int.reduceLT, Int.reduceLE, Int.reduceAdd, Int.reduceEq, Int.reduceNe, beq_self_eq_true, bne_self_eq_false, decide_true, decide_false, Bool.not_true, Bool.not_false, Bool.false_eq_true, false_and, and_false, not_true_eq_false, not_false_eq_true, f1, f2, f3, f4, f5, s1, k1, c1, EvR]
      have hf := But.fill hw' (.cells [.int 3 0, .int 3 0, .str 0 0] false) (.cells [.int 3 l[i].k, .int 3 l[i].n, .str l[i].tl l[i].tn] false)
      have hwf := hw'.fill (.cells [.int 3 0, .int 3 0, .str 0 0] false) (.cells [.int 3 l[i].k, .int 3 l[i].n, .str l[i].tl l[i].tn] false)
      refine (outs1_spec h26 (e := l[i]) (i := i) (hf.get _ _ id hq')).use ?_
      rintro r M2 hw2 ⟨rfl, hB2⟩
      have hB3 : But (fun p => M.next.num ≤ p.num) M M2 := (hB.trans (hf.mono fun _ h => h.elim)).trans (hB2.mono fun _ h => h.elim)
      have hO2 : OwnSl M2 o 1 (StrL ol) := (hO.old hf fun _ _ => id).old hB2 fun _ _ => id
      cases hok : (l[i].k == 1 && l[i].n == mark) with
      | false =>
        simp only [go_sem, reduceCtorEq, Nat.reduceEqDiff, Nat.reduceAdd, Nat.reduceMul, Nat.reduceLeDiff, Nat.reduceSub, Nat.reduceLT, Nat.reduceBEq, Nat.reduceBNe, Int.reduceBEq, Int.reduceBNe, Int.reduceLT, Int.reduceLE, Int.reduceAdd, Int.reduceEq, Int.reduceNe, beq_self_eq_true, bne_self_eq_false, decide_true, decide_false, Bool.not_true, Bool.not_false, Bool.false_eq_true, false_and, and_false, not_true_eq_false, not_false_eq_true, f1, f2, f3, f4, f5]
        refine ⟨l.length - (i + 1), by omega, i + 1, o, ol, by omega, rfl, hw2, hB3, hO2, hof, by omega, ?_, ?_, ?_, ?_, ?_, ?_⟩
        · rw [← hres, List.drop_eq_getElem_cons hi']; simp [outsL, hok]
        all_goals simp [Tr.get_set, f1, f2, f3, f4, f5, wrap_succ (show i < 2 ^ 62 by omega)]
      | true =>
        have hw3 := hw2.new (.cells [.str l[i].tl l[i].tn] false)
        have hB4 := But.new (S := fun _ => False) hw2 (.cells [.str l[i].tl l[i].tn] false)
        obtain ⟨v', M4, e4, hO4, hB5, hw4, hof4⟩ := (hO2.old hB4 fun _ _ => id).append hw3 (x := [.str l[i].tl l[i].tn]) rfl rfl (by omega) (by simp [StrL, most]; omega) (by intro y hy; simp [StrL] at hy; obtain ⟨z, _, _, rfl⟩ := hy; rfl)
        have e5 : appO (M2.new (.cells [.str l[i].tl l[i].tn] false)) 1 o (.slice M2.next 0 1 1) = some (v', M4) := by
          rw [appO_one (x := [.str l[i].tl l[i].tn]) (size := 1) (op := false) (by simp [Mem.new]) rfl (by omega)]; exact e4
        simp only [go_sem, reduceCtorEq, Nat.reduceEqDiff, Nat.reduceAdd, Nat.reduceMul, Nat.reduceLeDiff, Nat.reduceSub, Nat.reduceLT, Nat.reduceBEq, Nat.reduceBNe, Int.reduceBEq, Int.reduceBNe, Int.reduceLT, Int.reduceLE, Int.reduceAdd, Int.reduceEq, Int.reduceNe, beq_self_eq_true, bne_self_eq_false, decide_true, decide_false, Bool.not_true, Bool.not_false, Bool.false_eq_true, false_and, and_false, not_true_eq_false, not_false_eq_true, f1, f2, f3, f4, f5, e5]
        refine ⟨l.length - (i + 1), by omega, i + 1, v', ol ++ [(l[i].tl, l[i].tn)], by omega, rfl, hw4, ?_, ?_, ?_, by simp; omega, ?_, ?_, ?_, ?_, ?_, ?_⟩
        · exact (hB3.trans (hB4.mono fun _ h => h.elim)).trans (hB5.mono fun p h => hof p h)
        · simpa [StrL] using hO4
        · intro p h
          have h1 := hof4 p h
          have h2 := hB3.next
          have h3 := hB4.next
          omega
        · rw [← hres, List.drop_eq_getElem_cons hi']; simp [outsL, hok]
        all_goals simp [Tr.get_set, f1, f2, f3, f4, f5, wrap_succ (show i < 2 ^ 62 by omega)]
    · have : i = l.length := by have := of_decide_eq_false hge; omega
      subst this
      simp only [go_sem, reduceCtorEq, Nat.reduceEqDiff, Nat.reduceAdd, Nat.reduceMul, Nat.reduceLeDiff, Nat.reduceSub, Nat.reduceLT, Nat.reduceBEq, Nat.reduceBNe, Int.reduceBEq, Int.reduceBNe, Int.reduceLT, Int.reduceLE, Int.reduceAdd, Int.reduceEq, Int.reduceNe, beq_self_eq_true, bne_self_eq_false, decide_true, decide_false, Bool.not_true, Bool.not_false, Bool.false_eq_true, false_and, and_false, not_true_eq_false, not_false_eq_true, f1, f2, f3, f4, f5]
      refine ⟨o, rfl, ?_, ?_⟩
      · have hres' : ol = outsL mark l := by simpa [outsL] using hres
        rw [← hres']; exact hO
      · exact But.fresh hw (hB.mono fun p h => .inr h)
end Go.Proofs.Ytfnbbbcnbfhclaa

end
section
namespace Go.Proofs.Ytfnbbbcnbfhclaa
open Go.Dx
variable {tbl : Nat → Option CFunc}

theorem str_at {M : Mem} {a : AV} {l : List (Nat × Nat)} (h : SlIs M a 1 (StrL l)) {i : Nat} (hi : i < l.length) : ∃ p o n, slAt a = some (p, o, n) ∧ i < n ∧ MB.cell (M.get p) (o + i * 1) = some (.str (l[i]'hi).1 (l[i]'hi).2) := by
  obtain ⟨p, o, h1, h2⟩ := h.at_ (i := i) (by simpa [StrL] using hi)
  refine ⟨p, o, _, h1, by simpa [StrL] using hi, MB.cell_one ?_⟩
  rw [h2]
  simp [StrL, List.getElem?_eq_getElem hi]

theorem texts_spec (h : tbl 11 = some cf11) {a b : AV} {M : Mem} {l m : List (Nat × Nat)} (ha : SlIs M a 1 (StrL l)) (hb : SlIs M b 1 (StrL m)) (hl : l.length < 2 ^ 62) :
    CallW tbl 11 (.cons a (.cons b .nil)) M fun r M' => r = .ret (.bool (decide (l = m))) ∧ M' = M := by
  refine CallW.intro h rfl (fr := .nod (.val .leaf a .leaf) (.val .leaf b .leaf)) rfl ?_
  have la : slLen a = some l.length := by rw [ha.len]; simp [StrL]
  have lb : slLen b = some m.length := by rw [hb.len]; simp [StrL]
  simp only [go_sem, reduceCtorEq, Nat.reduceEqDiff, Nat.reduceAdd, Nat.reduceMul, Nat.reduceLeDiff, Nat.reduceSub, Nat.reduceLT, Nat.reduceBEq, Nat.reduceBNe, Int.reduceBEq, Int.reduceBNe, Int.reduceLT, Int.reduceLE, Int.reduceAdd, Int.reduceEq, Int.reduceNe, beq_self_eq_true, bne_self_eq_false, decide_true, decide_false, Bool.not_true, Bool.not_false, Bool.false_eq_true, false_and, and_false, not_true_eq_false, not_false_eq_true, cf11, la, lb]
  refine cdK_b (fun hne => ?_) (fun heq => ?_)
  · have : l ≠ m := fun e => by rw [e] at hne; simp at hne
    simp only [go_sem, reduceCtorEq, Nat.reduceEqDiff, Nat.reduceAdd, Nat.reduceMul, Nat.reduceLeDiff, Nat.reduceSub, Nat.reduceLT, Nat.reduceBEq, Nat.reduceBNe, Int.reduceBEq, Int.reduceBNe, Int.reduceLT, Int.reduceLE, Int.reduceAdd, Int.reduceEq, Int.reduceNe, beq_self_eq_true, bne_self_eq_false, decide_true, decide_false, Bool.not_true, Bool.not_false, Bool.false_eq_true, false_and, and_false, not_true_eq_false, not_false_eq_true]
    simp [this]
  · have hlen : l.length = m.length := by
      have : (l.length : Int) = m.length := by simpa using heq
      omega
    simp only [go_sem, reduceCtorEq, Nat.reduceEqDiff, Nat.reduceAdd, Nat.reduceMul, Nat.reduceLeDiff, Nat.reduceSub, Nat.reduceLT, Nat.reduceBEq, Nat.reduceBNe, Int.reduceBEq, Int.reduceBNe, Int.reduceLT, Int.reduceLE, Int.reduceAdd, Int.reduceEq, Int.reduceNe, beq_self_eq_true, bne_self_eq_false, decide_true, decide_false, Bool.not_true, Bool.not_false, Bool.false_eq_true, false_and, and_false, not_true_eq_false, not_false_eq_true]
    refine loop_wp (I := fun n fr M' => ∃ i, i ≤ l.length ∧ n = l.length - i ∧ M' = M ∧ l.take i = m.take i ∧ fr.get (.o .h) = some a ∧ fr.get (.i .h) = some b ∧ fr.get (.i (.i .h)) = some (.int 3 (i : Nat))) (n := l.length) ?_ ?_
    · exact ⟨0, by omega, by omega, rfl, by simp, rfl, rfl, rfl⟩
    · rintro n fr M' ⟨i, hi, rfl, rfl, htk, f1, f2, f3⟩
      simp only [go_sem, reduceCtorEq, Nat.reduceEqDiff, Nat.reduceAdd, Nat.reduceMul, Nat.reduceLeDiff, Nat.reduceSub, Nat.reduceLT, Nat.reduceBEq, Nat.reduceBNe, Int.reduceBEq, Int.reduceBNe, Int.reduceLT, Int.reduceLE, Int.reduceAdd, Int.reduceEq, Int.reduceNe, beq_self_eq_true, bne_self_eq_false, decide_true, decide_false, Bool.not_true, Bool.not_false, Bool.false_eq_true, false_and, and_false, not_true_eq_false, not_false_eq_true, f1, f2, f3, la]
      refine cdK_b (fun hlt => ?_) (fun hge => ?_)
      · have hi' : i < l.length := by have := of_decide_eq_true hlt; omega
        obtain ⟨p, o, n, s1, k1, c1⟩ := str_at ha hi'
        obtain ⟨q, u, n', s2, k2, c2⟩ := str_at hb (hlen ▸ hi')
        simp only [go_sem, reduceCtorEq, Nat.reduceEqDiff, Nat.reduceAdd, Nat.reduceMul, Nat.reduceLeDiff, Nat.reduceSub, Nat.reduceLT, Nat.reduceBEq, Nat.reduceBNe, Int.reduceBEq, Int.reduceBNe, Int.reduceLT, Int.reduceLE, Int.reduceAdd, Int.reduceEq, Int.reduceNe, beq_self_eq_true, bne_self_eq_false, decide_true, decide_false, Bool.not_true, Bool.not_false, Bool.false_eq_true, false_and, and_false, not_true_eq_false, not_false_eq_true, f1, f2, f3, s1, k1, c1, s2, k2, c2]
        refine cdK_b (fun hne => ?_) (fun heq => ?_)
        · have : l ≠ m := fun e => by subst e; simp at hne
          simp only [go_sem, reduceCtorEq, Nat.reduceEqDiff, Nat.reduceAdd, Nat.reduceMul, Nat.reduceLeDiff, Nat.reduceSub, Nat.reduceLT, Nat.reduceBEq, Nat.reduceBNe, Int.reduceBEq, Int.reduceBNe, Int.reduceLT, Int.reduceLE, Int.reduceAdd, Int.reduceEq, Int.reduceNe, beq_self_eq_true, bne_self_eq_false, decide_true, decide_false, Bool.not_true, Bool.not_false, Bool.false_eq_true, false_and, and_false, not_true_eq_false, not_false_eq_true]
          simp [this]
        · simp only [go_sem, reduceCtorEq, Nat.reduceEqDiff, Nat.reduceAdd, Nat.reduceMul, Nat.reduceLeDiff, Nat.reduceSub, Nat.reduceLT, Nat.reduceBEq, Nat.reduceBNe, Int.reduceBEq, Int.reduceBNe, Int.reduceLT, Int.reduceLE, Int.reduceAdd, Int.reduceEq, Int.reduceNe, beq_self_eq_true, bne_self_eq_false, decide_true, decide_false, Bool.not_true, Bool.not_false, Bool.false_eq_true, false_and, and_false, not_true_eq_false, not_false_eq_true, f1, f2, f3]
          refine ⟨l.length - (i + 1), by omega, i + 1, by omega, rfl, rfl, ?_, ?_, ?_, ?_⟩
          · rw [List.take_succ_eq_append_getElem hi', List.take_succ_eq_append_getElem (hlen ▸ hi'), htk]
            congr 2
            simp only [Bool.not_eq_false', Bool.and_eq_true, beq_iff_eq] at heq
            exact Prod.ext heq.1 heq.2
          all_goals simp [Tr.get_set, f1, f2, wrap_succ (show i < 2 ^ 62 by omega)]
      · have : i = l.length := by have := of_decide_eq_false hge; omega
        subst this
        rw [List.take_length, hlen, List.take_length] at htk
        simp only [go_sem, reduceCtorEq, Nat.reduceEqDiff, Nat.reduceAdd, Nat.reduceMul, Nat.reduceLeDiff, Nat.reduceSub, Nat.reduceLT, Nat.reduceBEq, Nat.reduceBNe, Int.reduceBEq, Int.reduceBNe, Int.reduceLT, Int.reduceLE, Int.reduceAdd, Int.reduceEq, Int.reduceNe, beq_self_eq_true, bne_self_eq_false, decide_true, decide_false, Bool.not_true, Bool.not_false, Bool.false_eq_true, false_and, and_false, not_true_eq_false, not_false_eq_true]
        simp [htk]

/-- How a program ended. -/
def endR : List Ev → Int × Nat × Nat
  | [] => (0, 0, 0)
  | e :: r => if e.k = 2 then (1, e.tl, e.tn) else if e.k = 3 then (2, e.tl, e.tn) else endR r

set_option maxRecDepth 10000 in
theorem refEnd_spec (h : tbl 7 = some cf7) {a : AV} {M : Mem} {l : List Ev} (ha : SlIs M a 3 (EvL l)) (hl : l.length < 2 ^ 62) :
    CallW tbl 7 (.cons a .nil) M fun r M' => r = .ret (.tuple (.cons (.int 3 (endR l).1) (.cons (.str (endR l).2.1 (endR l).2.2) .nil))) ∧ M' = M := by
  refine CallW.intro h rfl (fr := .nod (.val .leaf a .leaf) .leaf) rfl ?_
  have la : slLen a = some l.length := by rw [ha.len]; simp [EvL]
  simp only [go_sem, reduceCtorEq, Nat.reduceEqDiff, Nat.reduceAdd, Nat.reduceMul, Nat.reduceLeDiff, Nat.reduceSub, Nat.reduceLT, Nat.reduceBEq, Nat.reduceBNe, Int.reduceBEq, Int.reduceBNe, Int.reduceLT, Int.reduceLE, Int.reduceAdd, Int.reduceEq, Int.reduceNe, beq_self_eq_true, bne_self_eq_false, decide_true, decide_false, Bool.not_true, Bool.not_false, Bool.false_eq_true, false_and, and_false, not_true_eq_false, not_false_eq_true, cf7]
  refine loop_wp (I := fun n fr M' => ∃ i, i ≤ l.length ∧ n = l.length - i ∧ M' = M ∧ endR (l.drop i) = endR l ∧ fr.get (.o .h) = some a ∧ fr.get (.o (.i .h)) = some (.int 3 (i : Nat))) (n := l.length) ?_ ?_
  · exact ⟨0, by omega, by omega, rfl, by simp, rfl, rfl⟩
  · rintro n fr M' ⟨i, hi, rfl, rfl, hd, f1, f2⟩
    simp only [go_sem, reduceCtorEq, Nat.reduceEqDiff, Nat.reduceAdd, Nat.reduceMul, Nat.reduceLeDiff, Nat.reduceSub, Nat.reduceLT, Nat.reduceBEq, Nat.reduceBNe, Int.reduceBEq, Int.reduceBNe, Int.reduceLT, Int.reduceLE, Int.reduceAdd, Int.reduceEq, Int.reduceNe, beq_self_eq_true, bne_self_eq_false, decide_true, decide_false, Bool.not_true, Bool.not_false, Bool.false_eq_true, false_and, and_false, not_true_eq_false, not_false_eq_true, f1, f2, la]
    refine cdK_b (fun hlt => ?_) (fun hge => ?_)
    · have hi' : i < l.length := by have := of_decide_eq_true hlt; omega
      obtain ⟨p, o, n, s1, k1, c1⟩ := ev_at ha hi'
      have c2 : MB.cell (M'.get p) (o + i * 3) = some (.int 3 l[i].k) := by have := MB.cell_row c1 (j := 0) (by omega); simpa [EvR] using this
      have c3 : MB.cell (M'.get p) (o + i * 3 + 2) = some (.str l[i].tl l[i].tn) := by have := MB.cell_row c1 (j := 2) (by omega); simpa [EvR] using this
      rw [List.drop_eq_getElem_cons hi'] at hd
      simp only [endR] at hd
      by_cases b1 : l[i].k = 2
      · have g1 : (l[i].k == 2) = true := by simp [b1]
        simp only [go_sem, reduceCtorEq, Nat.reduceEqDiff, Nat.reduceAdd, Nat.reduceMul, Nat.reduceLeDiff, Nat.reduceSub, Nat.reduceLT, Nat.reduceBEq, Nat.reduceBNe, Int.reduceBEq, Int.reduceBNe, Int.reduceLT, Int.reduceLE, Int.reduceAdd, Int.reduceEq, Int.reduceNe, beq_self_eq_true, bne_self_eq_false, decide_true, decide_false, Bool.not_true, Bool.not_false, Bool.false_eq_true, false_and, and_false, not_true_eq_false, not_false_eq_true, f1, f2, s1, k1, c2, c3, g1, Nat.add_zero]
        rw [if_pos b1] at hd
        rw [← hd]
      · have g1 : (l[i].k == 2) = false := by simp [b1]
        rw [if_neg b1] at hd
        by_cases b2 : l[i].k = 3
        · have g2 : (l[i].k == 3) = true := by simp [b2]
          simp only [go_sem, reduceCtorEq, Nat.reduceEqDiff, Nat.reduceAdd, Nat.reduceMul, Nat.reduceLeDiff, Nat.reduceSub, Nat.reduceLT, Nat.reduceBEq, Nat.reduceBNe, Int.reduceBEq, Int.reduceBNe, Int.reduceLT, Int.reduceLE, Int.reduceAdd, Int.reduceEq, Int.reduceNe, beq_self_eq_true, bne_self_eq_false, decide_true, decide_false, Bool.not_true, Bool.not_false, Bool.false_eq_true, false_and, and_false, not_true_eq_false, not_false_eq_true, f1, f2, s1, k1, c2, c3, g1, g2, Nat.add_zero]
          rw [if_pos b2] at hd
          rw [← hd]
        · have g2 : (l[i].k == 3) = false := by simp [b2]
          simp only [go_sem, reduceCtorEq, Nat.reduceEqDiff, Nat.reduceAdd, Nat.reduceMul, Nat.reduceLeDiff, Nat.reduceSub, Nat.reduceLT, Nat.reduceBEq, Nat.reduceBNe, Int.reduceBEq, Int.reduceBNe, Int.reduceLT, Int.reduceLE, Int.reduceAdd, Int.reduceEq, Int.reduceNe, beq_self_eq_true, bne_self_eq_false, decide_true, decide_false, Bool.not_true, Bool.not_false, Bool.false_eq_true, false_and, and_false, not_true_eq_false, not_false_eq_true, f1, f2, s1, k1, c2, c3, g1, g2, Nat.add_zero]
          rw [if_neg b2] at hd
          refine ⟨l.length - (i + 1), by omega, i + 1, by omega, rfl, rfl, hd, ?_, ?_⟩
          all_goals simp [Tr.get_set, f1, f2, wrap_succ (show i < 2 ^ 62 by omega)]
    · have : i = l.length := by have := of_decide_eq_false hge; omega
      subst this
      rw [List.drop_length] at hd
      simp only [go_sem, reduceCtorEq, Nat.reduceEqDiff, Nat.reduceAdd, Nat.reduceMul, Nat.reduceLeDiff, Nat.reduceSub, Nat.reduceLT, Nat.reduceBEq, Nat.reduceBNe, Int.reduceBEq, Int.reduceBNe, Int.reduceLT, Int.reduceLE, Int.reduceAdd, Int.reduceEq, Int.reduceNe, beq_self_eq_true, bne_self_eq_false, decide_true, decide_false, Bool.not_true, Bool.not_false, Bool.false_eq_true, false_and, and_false, not_true_eq_false, not_false_eq_true, f1, f2]
      rw [← hd]
      rfl
end Go.Proofs.Ytfnbbbcnbfhclaa

end
section
namespace Go.Proofs.Ytfnbbbcnbfhclaa
open Go.Dx
variable {tbl : Nat → Option CFunc}

/-- What is appended to a slice of its owner's, one element of one cell. -/
theorem push1 {M : Mem} {o : AV} {L : List (List AV)} {x : AV} (hO : OwnSl M o 1 L) (hw : M.wf) (hx : isCell x = true) (hm : L.length + 1 ≤ most) (hL : ∀ y ∈ L, y.all isCell = true) :
    ∃ v' M', appO (M.new (.cells [x] false)) 1 o (.slice M.next 0 1 1) = some (v', M') ∧ OwnSl M' v' 1 (L ++ [[x]]) ∧ But (ownP o) M M' ∧ M'.wf ∧ ∀ p, ownP v' p → M.next.num ≤ p.num := by
  have hw3 := hw.new (.cells [x] false)
  have hB4 := But.new (S := fun _ => False) hw (.cells [x] false)
  obtain ⟨v', M4, e4, hO4, hB5, hw4, hof4⟩ := (hO.old hB4 fun _ _ => id).append hw3 (x := [x]) rfl (by simp [hx]) (by omega) hm hL
  refine ⟨v', M4, ?_, hO4, (hB4.mono fun _ h => h.elim).trans hB5, hw4, fun p h => ?_⟩
  · rw [appO_one (x := [x]) (size := 1) (op := false) (by simp [Mem.new]) rfl (by omega)]; exact e4
  · have h1 := hof4 p h
    have h3 := hB4.next
    omega
theorem intL_cells (l : List Int) : ∀ y ∈ IntL l, y.all isCell = true := by intro y hy; simp [IntL] at hy; obtain ⟨z, _, rfl⟩ := hy; rfl
theorem strL_cells (l : List (Nat × Nat)) : ∀ y ∈ StrL l, y.all isCell = true := by intro y hy; simp [StrL] at hy; obtain ⟨z, _, _, rfl⟩ := hy; rfl

set_option maxRecDepth 10000 in
theorem refOuts_spec (h : tbl 13 = some cf13) {a : AV} {M : Mem} {l : List Ev} {mark : Int} (ha : SlIs M a 3 (EvL l)) (hl : l.length ≤ 1000) :
    CallW tbl 13 (.cons a (.cons (.int 3 mark) .nil)) M fun r M' => ∃ v, r = .ret v ∧ OwnSl M' v 1 (StrL (outsL mark l)) ∧ But (fun _ => False) M M' := by
  refine CallW.wf fun hw => ?_
  refine CallW.intro h rfl (fr := .nod (.val .leaf a .leaf) (.val .leaf (.int 3 mark) .leaf)) rfl ?_
  have la : slLen a = some l.length := by rw [ha.len]; simp [EvL]
  simp only [go_sem, reduceCtorEq, Nat.reduceEqDiff, Nat.reduceAdd, Nat.reduceMul, Nat.reduceLeDiff, Nat.reduceSub, Nat.reduceLT, Nat.reduceBEq, Nat.reduceBNe, Int.reduceBEq, Int.reduceBNe, Int.reduceLT, Int.reduceLE, Int.reduceAdd, Int.reduceEq, Int.reduceNe, beq_self_eq_true, bne_self_eq_false, decide_true, decide_false, Bool.not_true, Bool.not_false, Bool.false_eq_true, false_and, and_false, not_true_eq_false, not_false_eq_true, cf13]
  refine loop_wp (I := fun n fr M' => ∃ (i : Nat) (o : AV) (ol : List (Nat × Nat)), i ≤ l.length ∧ n = l.length - i ∧ M'.wf ∧ But (fun p => M.next.num ≤ p.num) M M' ∧ OwnSl M' o 1 (StrL ol) ∧ (∀ p, ownP o p → M.next.num ≤ p.num) ∧ ol.length ≤ i ∧
      ol ++ outsL mark (l.drop i) = outsL mark l ∧ fr.get (.o .h) = some a ∧ fr.get (.i .h) = some (.int 3 mark) ∧ fr.get (.i (.i .h)) = some o ∧ fr.get (.o (.o (.o .h))) = some (.int 3 i)) (n := l.length) ?_ ?_
  · exact ⟨0, .nilslice, [], by omega, by omega, hw, But.refl _ _, OwnSl.nil _ _, (fun p hp => by obtain ⟨n, s, e⟩ := hp; cases e), by simp, by simp, rfl, rfl, rfl, rfl⟩
  · rintro n fr M' ⟨i, o, ol, hi, rfl, hw', hB, hO, hof, hol, hres, f1, f2, f3, f4⟩
    simp only [go_sem, reduceCtorEq, Nat.reduceEqDiff, Nat.reduceAdd, Nat.reduceMul, Nat.reduceLeDiff, Nat.reduceSub, Nat.reduceLT, Nat.reduceBEq, Nat.reduceBNe, Int.reduceBEq, Int.reduceBNe, Int.reduceLT, Int.reduceLE, Int.reduceAdd, Int.reduceEq, Int.reduceNe, beq_self_eq_true, bne_self_eq_false, decide_true, decide_false, Bool.not_true, Bool.not_false, Bool.false_eq_true, false_and, and_false, not_true_eq_false, not_false_eq_true, f1, f2, f3, f4, la]
    refine cdK_b (fun hlt => ?_) (fun hge => ?_)
    · have hi' : i < l.length := by have := of_decide_eq_true hlt; omega
      have hne : EvL l ≠ [] := by intro e; have := congrArg List.length e; simp [EvL] at this; rw [this] at hi'; simp at hi'
      have ha' := ha.but hB fun p' o' n' h' => by have h2 := ha.lt hw hne h'; omega
      obtain ⟨p, po, n, s1, k1, c1⟩ := ev_at ha' hi'
      have c2 : MB.cell (M'.get p) (po + i * 3) = some (.int 3 l[i].k) := by have := MB.cell_row c1 (j := 0) (by omega); simpa [EvR] using this
      have c3 : MB.cell (M'.get p) (po + i * 3 + 1) = some (.int 3 l[i].n) := by have := MB.cell_row c1 (j := 1) (by omega); simpa [EvR] using this
      have c4 : MB.cell (M'.get p) (po + i * 3 + 2) = some (.str l[i].tl l[i].tn) := by have := MB.cell_row c1 (j := 2) (by omega); simpa [EvR] using this
      rw [List.drop_eq_getElem_cons hi'] at hres
      simp only [outsL] at hres
      by_cases hok : (l[i].k == 1 && l[i].n == mark) = true
      · have g1 : (l[i].k == 1) = true := by simp only [Bool.and_eq_true] at hok; exact hok.1
        have g2 : (l[i].n == mark) = true := by simp only [Bool.and_eq_true] at hok; exact hok.2
        obtain ⟨v', M4, e5, hO4, hB5, hw4, hof4⟩ := push1 hO hw' (x := .str l[i].tl l[i].tn) rfl (by simp [StrL, most]; omega) (strL_cells _)
        simp only [go_sem, reduceCtorEq, Nat.reduceEqDiff, Nat.reduceAdd, Nat.reduceMul, Nat.reduceLeDiff, Nat.reduceSub, Nat.reduceLT, Nat.reduceBEq, Nat.reduceBNe, Int.reduceBEq, Int.reduceBNe, Int.reduceLT, Int.reduceLE, Int.reduceAdd, Int.reduceEq, Int.reduceNe, beq_self_eq_true, bne_self_eq_false, decide_true, decide_false, Bool.not_true, Bool.not_false, Bool.false_eq_true, false_and, and_false, not_true_eq_false, not_false_eq_true, f1, f2, f3, f4, s1, k1, c2, c3, c4, g1, g2, Nat.add_zero, e5]
        rw [if_pos hok] at hres
        refine ⟨l.length - (i + 1), by omega, i + 1, v', ol ++ [(l[i].tl, l[i].tn)], by omega, rfl, hw4, ?_, ?_, ?_, by simp; omega, ?_, ?_, ?_, ?_, ?_⟩
        · exact hB.trans (hB5.mono fun p h => hof p h)
        · simpa [StrL] using hO4
        · intro p h
          have h1 := hof4 p h
          have h2 := hB.next
          omega
        · rw [← hres]; simp
        all_goals simp [Tr.get_set, f1, f2, f3, f4, wrap_succ (show i < 2 ^ 62 by omega)]
      · have hok' : (l[i].k == 1 && l[i].n == mark) = false := by simpa using hok
        rw [if_neg hok] at hres
        have fin : ∀ fr', fr'.get (.o .h) = some a → fr'.get (.i .h) = some (.int 3 mark) → fr'.get (.i (.i .h)) = some o → fr'.get (.o (.o (.o .h))) = some (.int 3 (IntKind.i64.wrap (↑i + 1))) → invK (fun n fr M' => ∃ (i : Nat) (o : AV) (ol : List (Nat × Nat)), i ≤ l.length ∧ n = l.length - i ∧ M'.wf ∧ But (fun p => M.next.num ≤ p.num) M M' ∧ OwnSl M' o 1 (StrL ol) ∧ (∀ p, ownP o p → M.next.num ≤ p.num) ∧ ol.length ≤ i ∧
      ol ++ outsL mark (l.drop i) = outsL mark l ∧ fr.get (.o .h) = some a ∧ fr.get (.i .h) = some (.int 3 mark) ∧ fr.get (.i (.i .h)) = some o ∧ fr.get (.o (.o (.o .h))) = some (.int 3 i)) (l.length - i) fr' M' := by
          intro fr' h1 h2 h3 h4
          rw [wrap_succ (show i < 2 ^ 62 by omega)] at h4
          exact ⟨l.length - (i + 1), by omega, i + 1, o, ol, by omega, rfl, hw', hB, hO, hof, by omega, hres, h1, h2, h3, h4⟩
        cases g1 : l[i].k == 1 with
        | false =>
          simp only [go_sem, reduceCtorEq, Nat.reduceEqDiff, Nat.reduceAdd, Nat.reduceMul, Nat.reduceLeDiff, Nat.reduceSub, Nat.reduceLT, Nat.reduceBEq, Nat.reduceBNe, Int.reduceBEq, Int.reduceBNe, Int.reduceLT, Int.reduceLE, Int.reduceAdd, Int.reduceEq, Int.reduceNe, beq_self_eq_true, bne_self_eq_false, decide_true, decide_false, Bool.not_true, Bool.not_false, Bool.false_eq_true, false_and, and_false, not_true_eq_false, not_false_eq_true, f1, f2, f3, f4, s1, k1, c2, c3, c4, g1, Nat.add_zero]
          apply fin <;> simp [Tr.get_set, f1, f2, f3]
        | true =>
          have g2 : (l[i].n == mark) = false := by simpa [g1] using hok'
          simp only [go_sem, reduceCtorEq, Nat.reduceEqDiff, Nat.reduceAdd, Nat.reduceMul, Nat.reduceLeDiff, Nat.reduceSub, Nat.reduceLT, Nat.reduceBEq, Nat.reduceBNe, Int.reduceBEq, Int.reduceBNe, Int.reduceLT, Int.reduceLE, Int.reduceAdd, Int.reduceEq, Int.reduceNe, beq_self_eq_true, bne_self_eq_false, decide_true, decide_false, Bool.not_true, Bool.not_false, Bool.false_eq_true, false_and, and_false, not_true_eq_false, not_false_eq_true, f1, f2, f3, f4, s1, k1, c2, c3, c4, g1, g2, Nat.add_zero]
          apply fin <;> simp [Tr.get_set, f1, f2, f3]
    · have : i = l.length := by have := of_decide_eq_false hge; omega
      subst this
      simp only [go_sem, reduceCtorEq, Nat.reduceEqDiff, Nat.reduceAdd, Nat.reduceMul, Nat.reduceLeDiff, Nat.reduceSub, Nat.reduceLT, Nat.reduceBEq, Nat.reduceBNe, Int.reduceBEq, Int.reduceBNe, Int.reduceLT, Int.reduceLE, Int.reduceAdd, Int.reduceEq, Int.reduceNe, beq_self_eq_true, bne_self_eq_false, decide_true, decide_false, Bool.not_true, Bool.not_false, Bool.false_eq_true, false_and, and_false, not_true_eq_false, not_false_eq_true, f1, f2, f3, f4]
      refine ⟨o, rfl, ?_, ?_⟩
      · have hres' : ol = outsL mark l := by simpa [outsL] using hres
        rw [← hres']; exact hO
      · exact But.fresh hw (hB.mono fun p h => .inr h)

/-- Outs. -/
theorem outs_spec (h : tbl 12 = some cf12) (h25 : tbl 25 = some cf25) (h26 : tbl 26 = some cf26) {a : AV} {M : Mem} {l : List Ev} {mark : Int} (ha : SlIs M a 3 (EvL l)) (hl : l.length ≤ 1000) :
    CallW tbl 12 (.cons a (.cons (.int 3 mark) .nil)) M fun r M' => ∃ v, r = .ret v ∧ OwnSl M' v 1 (StrL (outsL mark l)) ∧ But (fun _ => False) M M' := by
  refine CallW.wf fun hw => ?_
  refine CallW.intro h rfl (fr := .nod (.val .leaf a .leaf) (.val .leaf (.int 3 mark) .leaf)) rfl ?_
  simp only [go_sem, reduceCtorEq, Nat.reduceEqDiff, Nat.reduceAdd, Nat.reduceMul, Nat.reduceLeDiff, Nat.reduceSub, Nat.reduceLT, Nat.reduceBEq, Nat.reduceBNe, Int.reduceBEq, Int.reduceBNe, Int.reduceLT, Int.reduceLE, Int.reduceAdd, Int.reduceEq, Int.reduceNe, beq_self_eq_true, bne_self_eq_false, decide_true, decide_false, Bool.not_true, Bool.not_false, Bool.false_eq_true, false_and, and_false, not_true_eq_false, not_false_eq_true, cf12]
  have hb := But.new (S := fun _ => False) hw (.cells [.int 3 mark] false)
  refine (picked_str h25 h26 (ha.but hb fun _ _ _ _ => id) hl (q := M.next) (mark := mark) (b := false) (by simp [Mem.new])).use ?_
  rintro r M' hw' ⟨v, rfl, hO, hB⟩
  simp only [go_sem, reduceCtorEq, Nat.reduceEqDiff, Nat.reduceAdd, Nat.reduceMul, Nat.reduceLeDiff, Nat.reduceSub, Nat.reduceLT, Nat.reduceBEq, Nat.reduceBNe, Int.reduceBEq, Int.reduceBNe, Int.reduceLT, Int.reduceLE, Int.reduceAdd, Int.reduceEq, Int.reduceNe, beq_self_eq_true, bne_self_eq_false, decide_true, decide_false, Bool.not_true, Bool.not_false, Bool.false_eq_true, false_and, and_false, not_true_eq_false, not_false_eq_true]
  exact ⟨v, rfl, hO, hb.trans hB⟩

/-- Fins. -/
theorem fins_spec (h : tbl 9 = some cf9) (h22 : tbl 22 = some cf22) (h23 : tbl 23 = some cf23) (h24 : tbl 24 = some cf24) {a : AV} {M : Mem} {l : List Ev} (ha : SlIs M a 3 (EvL l)) (hl : l.length ≤ 1000) :
    CallW tbl 9 (.cons a .nil) M fun r M' => ∃ v, r = .ret v ∧ OwnSl M' v 1 (IntL (finsL ⟨0, [], false⟩ l 0)) ∧ But (fun _ => False) M M' := by
  refine CallW.wf fun hw => ?_
  refine CallW.intro h rfl (fr := .nod (.val .leaf a .leaf) .leaf) rfl ?_
  simp only [go_sem, reduceCtorEq, Nat.reduceEqDiff, Nat.reduceAdd, Nat.reduceMul, Nat.reduceLeDiff, Nat.reduceSub, Nat.reduceLT, Nat.reduceBEq, Nat.reduceBNe, Int.reduceBEq, Int.reduceBNe, Int.reduceLT, Int.reduceLE, Int.reduceAdd, Int.reduceEq, Int.reduceNe, beq_self_eq_true, bne_self_eq_false, decide_true, decide_false, Bool.not_true, Bool.not_false, Bool.false_eq_true, false_and, and_false, not_true_eq_false, not_false_eq_true, cf9]
  have w1 := hw.new (.map .nil 0)
  have w2 := w1.new (.cells [.int 3 0, .map M.next, .bool false] false)
  have b1 := But.new (S := fun _ => False) hw (.map .nil 0)
  have b2 := But.new (S := fun _ => False) w1 (.cells [.int 3 0, .map M.next, .bool false] false)
  have b3 := But.fill w2 (.cells [.nilptr] false) (.cells [.ptr M.next.succ 0] false)
  have bb := (b1.trans b2).trans b3
  have n1 : M.next.succ ≠ M.next := fun e => by have := congrArg Pos.num e; simp [Pos.num_succ] at this
  have n2 : M.next.succ.succ ≠ M.next := fun e => by have := congrArg Pos.num e; simp [Pos.num_succ] at this; omega
  have n3 : M.next.succ.succ ≠ M.next.succ := fun e => by have := congrArg Pos.num e; simp [Pos.num_succ] at this
  have e1 := eq_false n1
  have e2 := eq_false n2
  have e3 := eq_false n3
  have e1' := eq_false n1.symm
  have e2' := eq_false n2.symm
  have e3' := eq_false n3.symm
  refine (picked_int h22 h23 h24 (ha.but bb fun _ _ _ _ => id) hl (q := M.next.succ.succ) (pp := M.next.succ) (mp := M.next) (b := false) (s := ⟨0, [], false⟩) ?_ ⟨n3, n2⟩ ⟨?_, .nil, 0, ?_, MapIs.nil.congr fun a ha => ?_⟩ ?_).use ?_
  · simp only [go_sem, reduceCtorEq, Nat.reduceEqDiff, Nat.reduceAdd, Nat.reduceMul, Nat.reduceLeDiff, Nat.reduceSub, Nat.reduceLT, Nat.reduceBEq, Nat.reduceBNe, Int.reduceBEq, Int.reduceBNe, Int.reduceLT, Int.reduceLE, Int.reduceAdd, Int.reduceEq, Int.reduceNe, beq_self_eq_true, bne_self_eq_false, decide_true, decide_false, Bool.not_true, Bool.not_false, Bool.false_eq_true, false_and, and_false, not_true_eq_false, not_false_eq_true, Mem.new, e1, e2, e3, e1', e2', e3']
  · simp only [go_sem, reduceCtorEq, Nat.reduceEqDiff, Nat.reduceAdd, Nat.reduceMul, Nat.reduceLeDiff, Nat.reduceSub, Nat.reduceLT, Nat.reduceBEq, Nat.reduceBNe, Int.reduceBEq, Int.reduceBNe, Int.reduceLT, Int.reduceLE, Int.reduceAdd, Int.reduceEq, Int.reduceNe, beq_self_eq_true, bne_self_eq_false, decide_true, decide_false, Bool.not_true, Bool.not_false, Bool.false_eq_true, false_and, and_false, not_true_eq_false, not_false_eq_true, Mem.new, e1, e2, e3, e1', e2', e3']
  · simp only [go_sem, reduceCtorEq, Nat.reduceEqDiff, Nat.reduceAdd, Nat.reduceMul, Nat.reduceLeDiff, Nat.reduceSub, Nat.reduceLT, Nat.reduceBEq, Nat.reduceBNe, Int.reduceBEq, Int.reduceBNe, Int.reduceLT, Int.reduceLE, Int.reduceAdd, Int.reduceEq, Int.reduceNe, beq_self_eq_true, bne_self_eq_false, decide_true, decide_false, Bool.not_true, Bool.not_false, Bool.false_eq_true, false_and, and_false, not_true_eq_false, not_false_eq_true, Mem.new, e1, e2, e3, e1', e2', e3']
  · obtain ⟨n, rfl⟩ := ha; simp [finF]
  · intro hne p o n hp
    have := ha.lt hw (by simpa [EvL] using hne) hp
    constructor <;> (intro e; rw [e] at this; simp [Pos.num_succ] at this; try omega)
  rintro r M' hw' ⟨v, rfl, hO, hB⟩
  simp only [go_sem, reduceCtorEq, Nat.reduceEqDiff, Nat.reduceAdd, Nat.reduceMul, Nat.reduceLeDiff, Nat.reduceSub, Nat.reduceLT, Nat.reduceBEq, Nat.reduceBNe, Int.reduceBEq, Int.reduceBNe, Int.reduceLT, Int.reduceLE, Int.reduceAdd, Int.reduceEq, Int.reduceNe, beq_self_eq_true, bne_self_eq_false, decide_true, decide_false, Bool.not_true, Bool.not_false, Bool.false_eq_true, false_and, and_false, not_true_eq_false, not_false_eq_true]
  refine ⟨v, rfl, hO, But.fresh hw ((bb.mono fun _ h => h.elim).trans (hB.mono ?_))⟩
  rintro p (rfl | rfl)
  · exact .inr (by simp [Pos.num_succ])
  · exact .inr (by simp)
end Go.Proofs.Ytfnbbbcnbfhclaa

end
section
namespace Go.Proofs.Ytfnbbbcnbfhclaa
open Go.Dx
variable {tbl : Nat → Option CFunc}

/-- What the document's answer keeps. -/
def FinI (M : Mem) (a : AV) (l : List Ev) (n : Nat) (fr : Tr AV) (M' : Mem) : Prop :=
  ∃ (i : Nat) (o : AV) (ol : List Int) (g : AV) (gl : List Int) (st : PS), i ≤ l.length ∧ n = l.length - i ∧ M'.wf ∧ But (fun p => M.next.num ≤ p.num) M M' ∧
    OwnSl M' o 1 (IntL ol) ∧ (∀ p, ownP o p → M.next.num ≤ p.num) ∧ ol.length ≤ i ∧
    OwnSl M' g 1 (IntL gl) ∧ (∀ p, ownP g p → M.next.num ≤ p.num) ∧ gl.length ≤ i ∧ (∀ p, ownP o p → ¬ ownP g p) ∧ (∀ n, n ∈ gl ↔ n ∈ st.fins) ∧
    ol ++ finsL st (l.drop i) i = finsL ⟨0, [], false⟩ l 0 ∧ fr.get (.o .h) = some a ∧ fr.get (.i (.o .h)) = some o ∧ fr.get (.o (.i .h)) = some g ∧
    fr.get (.i (.i .h)) = some (.int 3 st.now) ∧ fr.get (.o (.o (.o .h))) = some (.bool st.ended) ∧ fr.get (.i (.o (.o .h))) = some (.int 3 i)

/-- The slots that stay while an event is looked at. -/
def FinS (a o g : AV) (st : PS) (i : Nat) (q : Pos) (fr : Tr AV) : Prop :=
  fr.get (.o .h) = some a ∧ fr.get (.i (.o .h)) = some o ∧ fr.get (.o (.i .h)) = some g ∧
  fr.get (.i (.i .h)) = some (.int 3 st.now) ∧ fr.get (.o (.o (.o .h))) = some (.bool st.ended) ∧ fr.get (.i (.o (.o .h))) = some (.int 3 i) ∧
  fr.get (.o (.i (.o .h))) = some (.ptr q 0)

set_option maxRecDepth 10000 in
theorem refFins_spec (h : tbl 10 = some cf10) {a : AV} {M : Mem} {l : List Ev} (ha : SlIs M a 3 (EvL l)) (hl : l.length ≤ 1000) :
    CallW tbl 10 (.cons a .nil) M fun r M' => ∃ v, r = .ret v ∧ OwnSl M' v 1 (IntL (finsL ⟨0, [], false⟩ l 0)) ∧ But (fun _ => False) M M' := by
  refine CallW.wf fun hw => ?_
  refine CallW.intro h rfl (fr := .nod (.val .leaf a .leaf) .leaf) rfl ?_
  have la : slLen a = some l.length := by rw [ha.len]; simp [EvL]
  simp only [go_sem, reduceCtorEq, Nat.reduceEqDiff, Nat.reduceAdd, Nat.reduceMul, Nat.reduceLeDiff, Nat.reduceSub, Nat.reduceLT, Nat.reduceBEq, Nat.reduceBNe, Int.reduceBEq, Int.reduceBNe, Int.reduceLT, Int.reduceLE, Int.reduceAdd, Int.reduceEq, Int.reduceNe, beq_self_eq_true, bne_self_eq_false, decide_true, decide_false, Bool.not_true, Bool.not_false, Bool.false_eq_true, false_and, and_false, not_true_eq_false, not_false_eq_true, cf10]
  refine loop_wp (I := FinI M a l) (n := l.length) ?_ ?_
  · exact ⟨0, .nilslice, [], .nilslice, [], ⟨0, [], false⟩, by omega, by omega, hw, But.refl _ _, OwnSl.nil _ _, (fun p hp => by obtain ⟨n, s, e⟩ := hp; cases e), by simp, OwnSl.nil _ _, (fun p hp => by obtain ⟨n, s, e⟩ := hp; cases e), by simp, (fun p hp => by obtain ⟨n, s, e⟩ := hp; cases e), fun _ => Iff.rfl, by simp, rfl, rfl, rfl, rfl, rfl, rfl⟩
  · rintro n fr M' ⟨i, o, ol, g, gl, st, hi, rfl, hw', hB, hO, hof, hol, hG, hgf, hgl, hdis, hmem, hres, f1, f2, f3, f4, f5, f6⟩
    simp only [go_sem, reduceCtorEq, Nat.reduceEqDiff, Nat.reduceAdd, Nat.reduceMul, Nat.reduceLeDiff, Nat.reduceSub, Nat.reduceLT, Nat.reduceBEq, Nat.reduceBNe, Int.reduceBEq, Int.reduceBNe, Int.reduceLT, Int.reduceLE, Int.reduceAdd, Int.reduceEq, Int.reduceNe, beq_self_eq_true, bne_self_eq_false, decide_true, decide_false, Bool.not_true, Bool.not_false, Bool.false_eq_true, false_and, and_false, not_true_eq_false, not_false_eq_true, f1, f2, f3, f4, f5, f6, la]
    refine cdK_b (fun hlt => ?_) (fun hge => ?_)
    · have hi' : i < l.length := by have := of_decide_eq_true hlt; omega
      have hne : EvL l ≠ [] := by intro e; have := congrArg List.length e; simp [EvL] at this; rw [this] at hi'; simp at hi'
      have ha' := ha.but hB fun p' o' n' h' => by have h2 := ha.lt hw hne h'; omega
      obtain ⟨p, po, n, s1, k1, c1⟩ := ev_at ha' hi'
      simp only [go_sem, reduceCtorEq, Nat.reduceEqDiff, Nat.reduceAdd, Nat.reduceMul, Nat.reduceLeDiff, Nat.reduceSub, Nat.reduceLT, Nat.reduceBEq, Nat.reduceBNe, Int.reduceBEq, Int.reduceBNe, Int.reduceLT, Int.reduceLE, Int.reduceAdd, Int.reduceEq, Int.reduceNe, beq_self_eq_true, bne_self_eq_false, decide_true, decide_false, Bool.not_true, Bool.not_false, Bool.false_eq_true, false_and, and_false, not_true_eq_false, not_false_eq_true, f1, f2, f3, f4, f5, f6, s1, k1, c1, EvR]
      generalize hM2 : (M'.new (MB.cells [AV.int 3 0, AV.int 3 0, AV.str 0 0] false)).put M'.next (MB.cells [AV.int 3 l[i].k, AV.int 3 l[i].n, AV.str l[i].tl l[i].tn] false) = M2
      have hb2 : But (fun _ => False) M' M2 := hM2 ▸ But.fill hw' _ _
      have hw2 : M2.wf := hM2 ▸ hw'.fill _ _
      have he : M2.get M'.next = some (.cells [.int 3 l[i].k, .int 3 l[i].n, .str l[i].tl l[i].tn] false) := by subst hM2; simp only [go_sem, reduceCtorEq, Nat.reduceEqDiff, Nat.reduceAdd, Nat.reduceMul, Nat.reduceLeDiff, Nat.reduceSub, Nat.reduceLT, Nat.reduceBEq, Nat.reduceBNe, Int.reduceBEq, Int.reduceBNe, Int.reduceLT, Int.reduceLE, Int.reduceAdd, Int.reduceEq, Int.reduceNe, beq_self_eq_true, bne_self_eq_false, decide_true, decide_false, Bool.not_true, Bool.not_false, Bool.false_eq_true, false_and, and_false, not_true_eq_false, not_false_eq_true]
      have hB2 : But (fun p => M.next.num ≤ p.num) M M2 := hB.trans (hb2.mono fun _ h => h.elim)
      have hO2 := hO.old hb2 fun _ _ => id
      have hG2 := hG.old hb2 fun _ _ => id
      have lg : slLen g = some gl.length := by rw [hG2.rows.len]; simp [IntL]
      generalize hq : M'.next = q
      rw [hq] at he
      refine loop_wp (I := fun n fr M'' => ∃ j, j ≤ gl.length ∧ n = gl.length - j ∧ M2 = M'' ∧ fr.get (.o .h) = some a ∧ fr.get (.i (.o .h)) = some o ∧ fr.get (.o (.i .h)) = some g ∧
        fr.get (.i (.i .h)) = some (.int 3 st.now) ∧ fr.get (.o (.o (.o .h))) = some (.bool st.ended) ∧ fr.get (.i (.o (.o .h))) = some (.int 3 i) ∧
        fr.get (.o (.i (.o .h))) = some (.ptr q 0) ∧ fr.get (.i (.i (.o .h))) = some (.bool ((gl.take j).contains l[i].n)) ∧ fr.get (.o (.o (.i .h))) = some (.int 3 j)) (n := gl.length) ?_ ?_
      · refine ⟨0, by omega, by omega, rfl, ?_⟩
        simp [Tr.get_set, f1, f2, f3, f4, f5, f6]
      · rintro n fr M'' ⟨j, hj, rfl, rfl, f1, f2, f3, f4, f5, f6, f7, f8, f9⟩
        simp only [go_sem, reduceCtorEq, Nat.reduceEqDiff, Nat.reduceAdd, Nat.reduceMul, Nat.reduceLeDiff, Nat.reduceSub, Nat.reduceLT, Nat.reduceBEq, Nat.reduceBNe, Int.reduceBEq, Int.reduceBNe, Int.reduceLT, Int.reduceLE, Int.reduceAdd, Int.reduceEq, Int.reduceNe, beq_self_eq_true, bne_self_eq_false, decide_true, decide_false, Bool.not_true, Bool.not_false, Bool.false_eq_true, false_and, and_false, not_true_eq_false, not_false_eq_true, f1, f2, f3, f4, f5, f6, f7, f8, f9, lg]
        refine cdK_b (fun hlt => ?_) (fun hge => ?_)
        · have hj' : j < gl.length := by have := of_decide_eq_true hlt; omega
          obtain ⟨p, po, n, s1, k1, c1⟩ := int_at hG2.rows hj'
          have htk : (gl.take (j + 1)).contains l[i].n = ((gl.take j).contains l[i].n || gl[j] == l[i].n) := by
            rw [List.take_succ_eq_append_getElem hj', Bool.eq_iff_iff]
            simp only [List.contains_iff_mem, List.mem_append, Bool.or_eq_true, List.mem_singleton, beq_iff_eq]
            exact or_congr Iff.rfl eq_comm
          cases hc : (gl.take j).contains l[i].n with
          | true =>
            rw [hc] at f8
            simp only [go_sem, reduceCtorEq, Nat.reduceEqDiff, Nat.reduceAdd, Nat.reduceMul, Nat.reduceLeDiff, Nat.reduceSub, Nat.reduceLT, Nat.reduceBEq, Nat.reduceBNe, Int.reduceBEq, Int.reduceBNe, Int.reduceLT, Int.reduceLE, Int.reduceAdd, Int.reduceEq, Int.reduceNe, beq_self_eq_true, bne_self_eq_false, decide_true, decide_false, Bool.not_true, Bool.not_false, Bool.false_eq_true, false_and, and_false, not_true_eq_false, not_false_eq_true, f1, f2, f3, f4, f5, f6, f7, f8, f9, s1, k1, c1, he]
            refine ⟨gl.length - (j + 1), by omega, j + 1, by omega, rfl, rfl, ?_⟩
            rw [wrap_succ (show j < 2 ^ 62 by omega), htk, hc]
            simp [Tr.get_set, f1, f2, f3, f4, f5, f6, f7]
          | false =>
            rw [hc] at f8
            simp only [go_sem, reduceCtorEq, Nat.reduceEqDiff, Nat.reduceAdd, Nat.reduceMul, Nat.reduceLeDiff, Nat.reduceSub, Nat.reduceLT, Nat.reduceBEq, Nat.reduceBNe, Int.reduceBEq, Int.reduceBNe, Int.reduceLT, Int.reduceLE, Int.reduceAdd, Int.reduceEq, Int.reduceNe, beq_self_eq_true, bne_self_eq_false, decide_true, decide_false, Bool.not_true, Bool.not_false, Bool.false_eq_true, false_and, and_false, not_true_eq_false, not_false_eq_true, f1, f2, f3, f4, f5, f6, f7, f8, f9, s1, k1, c1, he]
            refine ⟨gl.length - (j + 1), by omega, j + 1, by omega, rfl, rfl, ?_⟩
            rw [wrap_succ (show j < 2 ^ 62 by omega), htk, hc]
            simp [Tr.get_set, f1, f2, f3, f4, f5, f6, f7]
        · have : j = gl.length := by have := of_decide_eq_false hge; omega
          subst this
          simp only [go_sem, reduceCtorEq, Nat.reduceEqDiff, Nat.reduceAdd, Nat.reduceMul, Nat.reduceLeDiff, Nat.reduceSub, Nat.reduceLT, Nat.reduceBEq, Nat.reduceBNe, Int.reduceBEq, Int.reduceBNe, Int.reduceLT, Int.reduceLE, Int.reduceAdd, Int.reduceEq, Int.reduceNe, beq_self_eq_true, bne_self_eq_false, decide_true, decide_false, Bool.not_true, Bool.not_false, Bool.false_eq_true, false_and, and_false, not_true_eq_false, not_false_eq_true, f1, f2, f3, f4, f5, f6, f7, f8, f9, he]
          refine cut_cd (fun fr M'' => M2 = M'' ∧ FinS a o g st i q fr ∧ fr.get (.i (.o (.i .h))) = some (.bool (st.ok l[i]))) ?_ ?_
          · have hm : (gl.take gl.length).contains l[i].n = st.fins.contains l[i].n := by
              rw [List.take_length, Bool.eq_iff_iff, List.contains_iff_mem, List.contains_iff_mem]; exact hmem _
            rw [hm] at f8
            generalize l[i] = e at *
            have lt1 : decide (e.n < 1) = !decide (0 < e.n) := by by_cases h : 0 < e.n <;> simp [h] <;> omega
            have nn : (e.n != 0) = !(e.n == 0) := rfl
            have nw : (st.now != 0) = !(st.now == 0) := rfl
            have nc : (e.n == st.now) = (st.now == e.n) := by rw [Bool.beq_comm]
            by_cases k4 : e.k = 4
            · have g4 : (e.k == 4) = true := by simp [k4]
              cases b1 : (st.now == 0) with
              | false =>
                simp only [go_sem, reduceCtorEq, Nat.reduceEqDiff, Nat.reduceAdd, Nat.reduceMul, Nat.reduceLeDiff, Nat.reduceSub, Nat.reduceLT, Nat.reduceBEq, Nat.reduceBNe, Int.reduceBEq, Int.reduceBNe, Int.reduceLT, Int.reduceLE, Int.reduceAdd, Int.reduceEq, Int.reduceNe, beq_self_eq_true, bne_self_eq_false, decide_true, decide_false, Bool.not_true, Bool.not_false, Bool.false_eq_true, false_and, and_false, not_true_eq_false, not_false_eq_true, f1, f2, f3, f4, f5, f6, f7, f8, f9, he, g4, b1]
                exact ⟨by simp [FinS, Tr.get_set, f1, f2, f3, f4, f5, f6, f7], by simp [PS.ok, k4, b1, lt1]⟩
              | true =>
                cases b2 : decide (0 < e.n) with
                | false =>
                  simp only [go_sem, reduceCtorEq, Nat.reduceEqDiff, Nat.reduceAdd, Nat.reduceMul, Nat.reduceLeDiff, Nat.reduceSub, Nat.reduceLT, Nat.reduceBEq, Nat.reduceBNe, Int.reduceBEq, Int.reduceBNe, Int.reduceLT, Int.reduceLE, Int.reduceAdd, Int.reduceEq, Int.reduceNe, beq_self_eq_true, bne_self_eq_false, decide_true, decide_false, Bool.not_true, Bool.not_false, Bool.false_eq_true, false_and, and_false, not_true_eq_false, not_false_eq_true, f1, f2, f3, f4, f5, f6, f7, f8, f9, he, g4, b1, b2]
                  exact ⟨by simp [FinS, Tr.get_set, f1, f2, f3, f4, f5, f6, f7], by simp [PS.ok, k4, b1, b2, lt1]⟩
                | true =>
                  cases b3 : st.fins.contains e.n with
                  | false =>
                    simp only [go_sem, reduceCtorEq, Nat.reduceEqDiff, Nat.reduceAdd, Nat.reduceMul, Nat.reduceLeDiff, Nat.reduceSub, Nat.reduceLT, Nat.reduceBEq, Nat.reduceBNe, Int.reduceBEq, Int.reduceBNe, Int.reduceLT, Int.reduceLE, Int.reduceAdd, Int.reduceEq, Int.reduceNe, beq_self_eq_true, bne_self_eq_false, decide_true, decide_false, Bool.not_true, Bool.not_false, Bool.false_eq_true, false_and, and_false, not_true_eq_false, not_false_eq_true, f1, f2, f3, f4, f5, f6, f7, f8, f9, he, g4, b1, b2, b3]
                    exact ⟨by simp [FinS, Tr.get_set, f1, f2, f3, f4, f5, f6, f7], by simp [PS.ok, k4, b1, b2, b3, lt1] <;> first | simpa using b3 | (rw [← nc] at b3; simpa using b3)⟩
                  | true =>
                    simp only [go_sem, reduceCtorEq, Nat.reduceEqDiff, Nat.reduceAdd, Nat.reduceMul, Nat.reduceLeDiff, Nat.reduceSub, Nat.reduceLT, Nat.reduceBEq, Nat.reduceBNe, Int.reduceBEq, Int.reduceBNe, Int.reduceLT, Int.reduceLE, Int.reduceAdd, Int.reduceEq, Int.reduceNe, beq_self_eq_true, bne_self_eq_false, decide_true, decide_false, Bool.not_true, Bool.not_false, Bool.false_eq_true, false_and, and_false, not_true_eq_false, not_false_eq_true, f1, f2, f3, f4, f5, f6, f7, f8, f9, he, g4, b1, b2, b3]
                    exact ⟨by simp [FinS, Tr.get_set, f1, f2, f3, f4, f5, f6, f7], by simp [PS.ok, k4, b1, b2, b3, lt1] <;> first | simpa using b3 | (rw [← nc] at b3; simpa using b3)⟩
            have g4 : (e.k == 4) = false := by simp [k4]
            by_cases k5 : e.k = 5
            · have g5 : (e.k == 5) = true := by simp [k5]
              cases b1 : (st.now == 0) with
              | false =>
                cases b2 : (st.now == e.n) with
                | false =>
                  simp only [go_sem, reduceCtorEq, Nat.reduceEqDiff, Nat.reduceAdd, Nat.reduceMul, Nat.reduceLeDiff, Nat.reduceSub, Nat.reduceLT, Nat.reduceBEq, Nat.reduceBNe, Int.reduceBEq, Int.reduceBNe, Int.reduceLT, Int.reduceLE, Int.reduceAdd, Int.reduceEq, Int.reduceNe, beq_self_eq_true, bne_self_eq_false, decide_true, decide_false, Bool.not_true, Bool.not_false, Bool.false_eq_true, false_and, and_false, not_true_eq_false, not_false_eq_true, f1, f2, f3, f4, f5, f6, f7, f8, f9, he, g4, g5, nw, b1, b2]
                  exact ⟨by simp [FinS, Tr.get_set, f1, f2, f3, f4, f5, f6, f7], by simp [PS.ok, k5, b1, b2, lt1]⟩
                | true =>
                  simp only [go_sem, reduceCtorEq, Nat.reduceEqDiff, Nat.reduceAdd, Nat.reduceMul, Nat.reduceLeDiff, Nat.reduceSub, Nat.reduceLT, Nat.reduceBEq, Nat.reduceBNe, Int.reduceBEq, Int.reduceBNe, Int.reduceLT, Int.reduceLE, Int.reduceAdd, Int.reduceEq, Int.reduceNe, beq_self_eq_true, bne_self_eq_false, decide_true, decide_false, Bool.not_true, Bool.not_false, Bool.false_eq_true, false_and, and_false, not_true_eq_false, not_false_eq_true, f1, f2, f3, f4, f5, f6, f7, f8, f9, he, g4, g5, nw, b1, b2]
                  exact ⟨by simp [FinS, Tr.get_set, f1, f2, f3, f4, f5, f6, f7], by simp [PS.ok, k5, b1, b2, lt1]⟩
              | true =>
                simp only [go_sem, reduceCtorEq, Nat.reduceEqDiff, Nat.reduceAdd, Nat.reduceMul, Nat.reduceLeDiff, Nat.reduceSub, Nat.reduceLT, Nat.reduceBEq, Nat.reduceBNe, Int.reduceBEq, Int.reduceBNe, Int.reduceLT, Int.reduceLE, Int.reduceAdd, Int.reduceEq, Int.reduceNe, beq_self_eq_true, bne_self_eq_false, decide_true, decide_false, Bool.not_true, Bool.not_false, Bool.false_eq_true, false_and, and_false, not_true_eq_false, not_false_eq_true, f1, f2, f3, f4, f5, f6, f7, f8, f9, he, g4, g5, nw, b1]
                exact ⟨by simp [FinS, Tr.get_set, f1, f2, f3, f4, f5, f6, f7], by simp [PS.ok, k5, b1, lt1]⟩
            have g5 : (e.k == 5) = false := by simp [k5]
            by_cases k2 : e.k = 2
            · have g2 : (e.k == 2) = true := by simp [k2]
              cases b1 : st.ended with
              | false =>
                cases b2 : (e.n == 0) with
                | false =>
                  simp only [go_sem, reduceCtorEq, Nat.reduceEqDiff, Nat.reduceAdd, Nat.reduceMul, Nat.reduceLeDiff, Nat.reduceSub, Nat.reduceLT, Nat.reduceBEq, Nat.reduceBNe, Int.reduceBEq, Int.reduceBNe, Int.reduceLT, Int.reduceLE, Int.reduceAdd, Int.reduceEq, Int.reduceNe, beq_self_eq_true, bne_self_eq_false, decide_true, decide_false, Bool.not_true, Bool.not_false, Bool.false_eq_true, false_and, and_false, not_true_eq_false, not_false_eq_true, f1, f2, f3, f4, f5, f6, f7, f8, f9, he, g4, g5, g2, b1, b2]
                  exact ⟨by simp [FinS, Tr.get_set, f1, f2, f3, f4, f5, f6, f7], by simp [PS.ok, k2, b1, b2, lt1]⟩
                | true =>
                  simp only [go_sem, reduceCtorEq, Nat.reduceEqDiff, Nat.reduceAdd, Nat.reduceMul, Nat.reduceLeDiff, Nat.reduceSub, Nat.reduceLT, Nat.reduceBEq, Nat.reduceBNe, Int.reduceBEq, Int.reduceBNe, Int.reduceLT, Int.reduceLE, Int.reduceAdd, Int.reduceEq, Int.reduceNe, beq_self_eq_true, bne_self_eq_false, decide_true, decide_false, Bool.not_true, Bool.not_false, Bool.false_eq_true, false_and, and_false, not_true_eq_false, not_false_eq_true, f1, f2, f3, f4, f5, f6, f7, f8, f9, he, g4, g5, g2, b1, b2]
                  exact ⟨by simp [FinS, Tr.get_set, f1, f2, f3, f4, f5, f6, f7], by simp [PS.ok, k2, b1, b2, lt1]⟩
              | true =>
                simp only [go_sem, reduceCtorEq, Nat.reduceEqDiff, Nat.reduceAdd, Nat.reduceMul, Nat.reduceLeDiff, Nat.reduceSub, Nat.reduceLT, Nat.reduceBEq, Nat.reduceBNe, Int.reduceBEq, Int.reduceBNe, Int.reduceLT, Int.reduceLE, Int.reduceAdd, Int.reduceEq, Int.reduceNe, beq_self_eq_true, bne_self_eq_false, decide_true, decide_false, Bool.not_true, Bool.not_false, Bool.false_eq_true, false_and, and_false, not_true_eq_false, not_false_eq_true, f1, f2, f3, f4, f5, f6, f7, f8, f9, he, g4, g5, g2, b1]
                exact ⟨by simp [FinS, Tr.get_set, f1, f2, f3, f4, f5, f6, f7], by simp [PS.ok, k2, b1, lt1]⟩
            have g2 : (e.k == 2) = false := by simp [k2]
            by_cases k3 : e.k = 3
            · have g3 : (e.k == 3) = true := by simp [k3]
              cases b1 : st.ended with
              | false =>
                cases b2 : (e.n == 0) with
                | false =>
                  simp only [go_sem, reduceCtorEq, Nat.reduceEqDiff, Nat.reduceAdd, Nat.reduceMul, Nat.reduceLeDiff, Nat.reduceSub, Nat.reduceLT, Nat.reduceBEq, Nat.reduceBNe, Int.reduceBEq, Int.reduceBNe, Int.reduceLT, Int.reduceLE, Int.reduceAdd, Int.reduceEq, Int.reduceNe, beq_self_eq_true, bne_self_eq_false, decide_true, decide_false, Bool.not_true, Bool.not_false, Bool.false_eq_true, false_and, and_false, not_true_eq_false, not_false_eq_true, f1, f2, f3, f4, f5, f6, f7, f8, f9, he, g4, g5, g2, g3, b1, b2]
                  exact ⟨by simp [FinS, Tr.get_set, f1, f2, f3, f4, f5, f6, f7], by simp [PS.ok, k3, b1, b2, lt1]⟩
                | true =>
                  simp only [go_sem, reduceCtorEq, Nat.reduceEqDiff, Nat.reduceAdd, Nat.reduceMul, Nat.reduceLeDiff, Nat.reduceSub, Nat.reduceLT, Nat.reduceBEq, Nat.reduceBNe, Int.reduceBEq, Int.reduceBNe, Int.reduceLT, Int.reduceLE, Int.reduceAdd, Int.reduceEq, Int.reduceNe, beq_self_eq_true, bne_self_eq_false, decide_true, decide_false, Bool.not_true, Bool.not_false, Bool.false_eq_true, false_and, and_false, not_true_eq_false, not_false_eq_true, f1, f2, f3, f4, f5, f6, f7, f8, f9, he, g4, g5, g2, g3, b1, b2]
                  exact ⟨by simp [FinS, Tr.get_set, f1, f2, f3, f4, f5, f6, f7], by simp [PS.ok, k3, b1, b2, lt1]⟩
              | true =>
                simp only [go_sem, reduceCtorEq, Nat.reduceEqDiff, Nat.reduceAdd, Nat.reduceMul, Nat.reduceLeDiff, Nat.reduceSub, Nat.reduceLT, Nat.reduceBEq, Nat.reduceBNe, Int.reduceBEq, Int.reduceBNe, Int.reduceLT, Int.reduceLE, Int.reduceAdd, Int.reduceEq, Int.reduceNe, beq_self_eq_true, bne_self_eq_false, decide_true, decide_false, Bool.not_true, Bool.not_false, Bool.false_eq_true, false_and, and_false, not_true_eq_false, not_false_eq_true, f1, f2, f3, f4, f5, f6, f7, f8, f9, he, g4, g5, g2, g3, b1]
                exact ⟨by simp [FinS, Tr.get_set, f1, f2, f3, f4, f5, f6, f7], by simp [PS.ok, k3, b1, lt1]⟩
            have g3 : (e.k == 3) = false := by simp [k3]
            by_cases k1 : e.k = 1
            · have g1 : (e.k == 1) = true := by simp [k1]
              cases b2 : (e.n == 0) with
              | false =>
                cases b3 : (st.now == e.n) with
                | false =>
                  simp only [go_sem, reduceCtorEq, Nat.reduceEqDiff, Nat.reduceAdd, Nat.reduceMul, Nat.reduceLeDiff, Nat.reduceSub, Nat.reduceLT, Nat.reduceBEq, Nat.reduceBNe, Int.reduceBEq, Int.reduceBNe, Int.reduceLT, Int.reduceLE, Int.reduceAdd, Int.reduceEq, Int.reduceNe, beq_self_eq_true, bne_self_eq_false, decide_true, decide_false, Bool.not_true, Bool.not_false, Bool.false_eq_true, false_and, and_false, not_true_eq_false, not_false_eq_true, f1, f2, f3, f4, f5, f6, f7, f8, f9, he, g4, g5, g2, g3, g1, nn, b2, nc, b3]
                  exact ⟨by simp [FinS, Tr.get_set, f1, f2, f3, f4, f5, f6, f7], by simp [PS.ok, k1, b2, b3, lt1] <;> first | simpa using b3 | (rw [← nc] at b3; simpa using b3)⟩
                | true =>
                  simp only [go_sem, reduceCtorEq, Nat.reduceEqDiff, Nat.reduceAdd, Nat.reduceMul, Nat.reduceLeDiff, Nat.reduceSub, Nat.reduceLT, Nat.reduceBEq, Nat.reduceBNe, Int.reduceBEq, Int.reduceBNe, Int.reduceLT, Int.reduceLE, Int.reduceAdd, Int.reduceEq, Int.reduceNe, beq_self_eq_true, bne_self_eq_false, decide_true, decide_false, Bool.not_true, Bool.not_false, Bool.false_eq_true, false_and, and_false, not_true_eq_false, not_false_eq_true, f1, f2, f3, f4, f5, f6, f7, f8, f9, he, g4, g5, g2, g3, g1, nn, b2, nc, b3]
                  exact ⟨by simp [FinS, Tr.get_set, f1, f2, f3, f4, f5, f6, f7], by simp [PS.ok, k1, b2, b3, lt1] <;> first | simpa using b3 | (rw [← nc] at b3; simpa using b3)⟩
              | true =>
                cases b1 : st.ended with
                | false =>
                  simp only [go_sem, reduceCtorEq, Nat.reduceEqDiff, Nat.reduceAdd, Nat.reduceMul, Nat.reduceLeDiff, Nat.reduceSub, Nat.reduceLT, Nat.reduceBEq, Nat.reduceBNe, Int.reduceBEq, Int.reduceBNe, Int.reduceLT, Int.reduceLE, Int.reduceAdd, Int.reduceEq, Int.reduceNe, beq_self_eq_true, bne_self_eq_false, decide_true, decide_false, Bool.not_true, Bool.not_false, Bool.false_eq_true, false_and, and_false, not_true_eq_false, not_false_eq_true, f1, f2, f3, f4, f5, f6, f7, f8, f9, he, g4, g5, g2, g3, g1, nn, b2, b1]
                  exact ⟨by simp [FinS, Tr.get_set, f1, f2, f3, f4, f5, f6, f7], by simp [PS.ok, k1, b2, b1, lt1]⟩
                | true =>
                  simp only [go_sem, reduceCtorEq, Nat.reduceEqDiff, Nat.reduceAdd, Nat.reduceMul, Nat.reduceLeDiff, Nat.reduceSub, Nat.reduceLT, Nat.reduceBEq, Nat.reduceBNe, Int.reduceBEq, Int.reduceBNe, Int.reduceLT, Int.reduceLE, Int.reduceAdd, Int.reduceEq, Int.reduceNe, beq_self_eq_true, bne_self_eq_false, decide_true, decide_false, Bool.not_true, Bool.not_false, Bool.false_eq_true, false_and, and_false, not_true_eq_false, not_false_eq_true, f1, f2, f3, f4, f5, f6, f7, f8, f9, he, g4, g5, g2, g3, g1, nn, b2, b1]
                  exact ⟨by simp [FinS, Tr.get_set, f1, f2, f3, f4, f5, f6, f7], by simp [PS.ok, k1, b2, b1, lt1]⟩
            have g1 : (e.k == 1) = false := by simp [k1]
            simp only [go_sem, reduceCtorEq, Nat.reduceEqDiff, Nat.reduceAdd, Nat.reduceMul, Nat.reduceLeDiff, Nat.reduceSub, Nat.reduceLT, Nat.reduceBEq, Nat.reduceBNe, Int.reduceBEq, Int.reduceBNe, Int.reduceLT, Int.reduceLE, Int.reduceAdd, Int.reduceEq, Int.reduceNe, beq_self_eq_true, bne_self_eq_false, decide_true, decide_false, Bool.not_true, Bool.not_false, Bool.false_eq_true, false_and, and_false, not_true_eq_false, not_false_eq_true, f1, f2, f3, f4, f5, f6, f7, f8, f9, he, g4, g5, g2, g3, g1]
            exact ⟨by simp [FinS, Tr.get_set, f1, f2, f3, f4, f5, f6, f7], by simp [PS.ok, k1, k2, k3, k4, k5]⟩
          · rintro fr M'' ⟨rfl, ⟨f1, f2, f3, f4, f5, f6, f7⟩, f8⟩
            have fin : ∀ (fr' : Tr AV) (st' : PS), st.ok l[i] = true → st' = st.go l[i] → st'.fins = st.fins → FinS a o g st' (i + 1) q fr' → invK (FinI M a l) (l.length - i) fr' M2 := by
              rintro fr' st' hok rfl hfs ⟨k1, k2, k3, k4, k5, k6, k7⟩
              refine ⟨l.length - (i + 1), by omega, i + 1, o, ol, g, gl, st.go l[i], by omega, rfl, hw2, hB2, hO2, hof, by omega, hG2, hgf, by omega, hdis, ?_, ?_, k1, k2, k3, k4, k5, k6⟩
              · rw [hfs]; exact hmem
              · rw [← hres, List.drop_eq_getElem_cons hi']; simp [finsL, hok]
            have hwr := wrap_succ (show i < 2 ^ 62 by omega)
            cases hok : st.ok l[i] with
            | false =>
              rw [hok] at f8
              obtain ⟨v', M4, e5, hO4, hB5, hw4, hof4⟩ := push1 hO2 hw2 (x := .int 3 (i : Int)) rfl (by simp [IntL, most]; omega) (intL_cells _)
              simp only [go_sem, reduceCtorEq, Nat.reduceEqDiff, Nat.reduceAdd, Nat.reduceMul, Nat.reduceLeDiff, Nat.reduceSub, Nat.reduceLT, Nat.reduceBEq, Nat.reduceBNe, Int.reduceBEq, Int.reduceBNe, Int.reduceLT, Int.reduceLE, Int.reduceAdd, Int.reduceEq, Int.reduceNe, beq_self_eq_true, bne_self_eq_false, decide_true, decide_false, Bool.not_true, Bool.not_false, Bool.false_eq_true, false_and, and_false, not_true_eq_false, not_false_eq_true, f1, f2, f3, f4, f5, f6, f7, f8, he, e5]
              refine ⟨l.length - (i + 1), by omega, i + 1, v', ol ++ [(i : Int)], g, gl, st, by omega, rfl, hw4, hB2.trans (hB5.mono hof), ?_, ?_, by simp; omega, hG2.old hB5 fun p hp ho => hdis p ho hp, hgf, by omega, ?_, hmem, ?_, ?_⟩
              · simpa [IntL] using hO4
              · intro p h
                have h1 := hof4 p h
                have h2 := hB2.next
                omega
              · intro p h h'
                have h1 := hof4 p h
                have h2 := hG2.lt hw2 h'
                omega
              · have hg : st.go l[i] = st := by simp [PS.go, hok]
                rw [← hres, List.drop_eq_getElem_cons hi']; simp [finsL, hok, hg]
              · simp [Tr.get_set, f1, f2, f3, f4, f5, f6, hwr]
            | true =>
              rw [hok] at f8
              have hf : ∀ n, l[i] = n → True := fun _ _ => trivial
              by_cases k4 : l[i].k = 4
              · have g4 : (l[i].k == 4) = true := by simp [k4]
                obtain ⟨v', M4, e5, hO4, hB5, hw4, hof4⟩ := push1 hG2 hw2 (x := .int 3 l[i].n) rfl (by simp [IntL, most]; omega) (intL_cells _)
                have he' := hB5.get q _ (fun h => by have h1 := hG.lt hw' h; rw [hq] at h1; omega) he
                simp only [go_sem, reduceCtorEq, Nat.reduceEqDiff, Nat.reduceAdd, Nat.reduceMul, Nat.reduceLeDiff, Nat.reduceSub, Nat.reduceLT, Nat.reduceBEq, Nat.reduceBNe, Int.reduceBEq, Int.reduceBNe, Int.reduceLT, Int.reduceLE, Int.reduceAdd, Int.reduceEq, Int.reduceNe, beq_self_eq_true, bne_self_eq_false, decide_true, decide_false, Bool.not_true, Bool.not_false, Bool.false_eq_true, false_and, and_false, not_true_eq_false, not_false_eq_true, f1, f2, f3, f4, f5, f6, f7, f8, he, g4, e5, he']
                refine ⟨l.length - (i + 1), by omega, i + 1, o, ol, v', gl ++ [l[i].n], st.go l[i], by omega, rfl, hw4, hB2.trans (hB5.mono hgf), hO2.old hB5 hdis, hof, by omega, ?_, ?_, by simp; omega, ?_, ?_, ?_, ?_⟩
                · simpa [IntL] using hO4
                · intro p h
                  have h1 := hof4 p h
                  have h2 := hB2.next
                  omega
                · intro p h h'
                  have h1 := hof4 p h'
                  have h2 := hO2.lt hw2 h
                  omega
                · intro n
                  simp [PS.go, hok, k4, hmem n, or_comm]
                · rw [← hres, List.drop_eq_getElem_cons hi']; simp [finsL, hok]
                · simp [Tr.get_set, f1, f2, f3, f4, f5, f6, f7, hwr, PS.go, hok, k4]
              have g4 : (l[i].k == 4) = false := by simp [k4]
              by_cases k5 : l[i].k = 5
              · have g5 : (l[i].k == 5) = true := by simp [k5]
                simp only [go_sem, reduceCtorEq, Nat.reduceEqDiff, Nat.reduceAdd, Nat.reduceMul, Nat.reduceLeDiff, Nat.reduceSub, Nat.reduceLT, Nat.reduceBEq, Nat.reduceBNe, Int.reduceBEq, Int.reduceBNe, Int.reduceLT, Int.reduceLE, Int.reduceAdd, Int.reduceEq, Int.reduceNe, beq_self_eq_true, bne_self_eq_false, decide_true, decide_false, Bool.not_true, Bool.not_false, Bool.false_eq_true, false_and, and_false, not_true_eq_false, not_false_eq_true, f1, f2, f3, f4, f5, f6, f7, f8, he, g4, g5]
                refine fin _ ⟨0, st.fins, st.ended⟩ hok (by simp [PS.go, hok, k5]) rfl ?_
                simp [FinS, Tr.get_set, f1, f2, f3, f4, f5, f6, f7, hwr]
              have g5 : (l[i].k == 5) = false := by simp [k5]
              by_cases k2 : l[i].k = 2
              · have g2 : (l[i].k == 2) = true := by simp [k2]
                simp only [go_sem, reduceCtorEq, Nat.reduceEqDiff, Nat.reduceAdd, Nat.reduceMul, Nat.reduceLeDiff, Nat.reduceSub, Nat.reduceLT, Nat.reduceBEq, Nat.reduceBNe, Int.reduceBEq, Int.reduceBNe, Int.reduceLT, Int.reduceLE, Int.reduceAdd, Int.reduceEq, Int.reduceNe, beq_self_eq_true, bne_self_eq_false, decide_true, decide_false, Bool.not_true, Bool.not_false, Bool.false_eq_true, false_and, and_false, not_true_eq_false, not_false_eq_true, f1, f2, f3, f4, f5, f6, f7, f8, he, g4, g5, g2]
                refine fin _ ⟨st.now, st.fins, true⟩ hok (by simp [PS.go, hok, k2]) rfl ?_
                simp [FinS, Tr.get_set, f1, f2, f3, f4, f5, f6, f7, hwr]
              have g2 : (l[i].k == 2) = false := by simp [k2]
              by_cases k3 : l[i].k = 3
              · have g3 : (l[i].k == 3) = true := by simp [k3]
                simp only [go_sem, reduceCtorEq, Nat.reduceEqDiff, Nat.reduceAdd, Nat.reduceMul, Nat.reduceLeDiff, Nat.reduceSub, Nat.reduceLT, Nat.reduceBEq, Nat.reduceBNe, Int.reduceBEq, Int.reduceBNe, Int.reduceLT, Int.reduceLE, Int.reduceAdd, Int.reduceEq, Int.reduceNe, beq_self_eq_true, bne_self_eq_false, decide_true, decide_false, Bool.not_true, Bool.not_false, Bool.false_eq_true, false_and, and_false, not_true_eq_false, not_false_eq_true, f1, f2, f3, f4, f5, f6, f7, f8, he, g4, g5, g2, g3]
                refine fin _ ⟨st.now, st.fins, true⟩ hok (by simp [PS.go, hok, k3]) rfl ?_
                simp [FinS, Tr.get_set, f1, f2, f3, f4, f5, f6, f7, hwr]
              have g3 : (l[i].k == 3) = false := by simp [k3]
              simp only [go_sem, reduceCtorEq, Nat.reduceEqDiff, Nat.reduceAdd, Nat.reduceMul, Nat.reduceLeDiff, Nat.reduceSub, Nat.reduceLT, Nat.reduceBEq, Nat.reduceBNe, Int.reduceBEq, Int.reduceBNe, Int.reduceLT, Int.reduceLE, Int.reduceAdd, Int.reduceEq, Int.reduceNe, beq_self_eq_true, bne_self_eq_false, decide_true, decide_false, Bool.not_true, Bool.not_false, Bool.false_eq_true, false_and, and_false, not_true_eq_false, not_false_eq_true, f1, f2, f3, f4, f5, f6, f7, f8, he, g4, g5, g2, g3]
              refine fin _ st hok (by simp [PS.go, hok, k2, k3, k4, k5]) rfl ?_
              simp [FinS, Tr.get_set, f1, f2, f3, f4, f5, f6, f7, hwr]
    · have : i = l.length := by have := of_decide_eq_false hge; omega
      subst this
      simp only [go_sem, reduceCtorEq, Nat.reduceEqDiff, Nat.reduceAdd, Nat.reduceMul, Nat.reduceLeDiff, Nat.reduceSub, Nat.reduceLT, Nat.reduceBEq, Nat.reduceBNe, Int.reduceBEq, Int.reduceBNe, Int.reduceLT, Int.reduceLE, Int.reduceAdd, Int.reduceEq, Int.reduceNe, beq_self_eq_true, bne_self_eq_false, decide_true, decide_false, Bool.not_true, Bool.not_false, Bool.false_eq_true, false_and, and_false, not_true_eq_false, not_false_eq_true, f1, f2, f3, f4]
      refine ⟨o, rfl, ?_, ?_⟩
      · have hres' : ol = finsL ⟨0, [], false⟩ l 0 := by simpa [finsL] using hres
        rw [← hres']; exact hO
      · exact But.fresh hw (hB.mono fun p h => .inr h)
end Go.Proofs.Ytfnbbbcnbfhclaa

end
section
namespace Go.Proofs.Ytfnbbbcnbfhclaa
open Go.Dx
variable {tbl : Nat → Option CFunc}

theorem endF_spec (h : tbl 21 = some cf21) {M : Mem} {e : Ev} {i : Int} :
    CallW tbl 21 (.cons (.int 3 i) (.cons (EvA e) .nil)) M fun r M' => r = .ret (.tuple (.cons (EvA e) (.cons (.bool (e.k == 2 || e.k == 3)) .nil))) ∧ But (fun _ => False) M M' := by
  refine CallW.wf fun hw => ?_
  obtain ⟨k, n, tl, tn⟩ := e
  refine CallW.intro h rfl (fr := .nod (.val .leaf (.int 3 i) .leaf) (.val .leaf (EvA ⟨k, n, tl, tn⟩) .leaf)) rfl ?_
  have b1 := But.new (S := fun _ => False) hw (.cells [.int 3 k, .int 3 n, .str tl tn] false)
  have b2 := But.fill (hw.new (.cells [.int 3 k, .int 3 n, .str tl tn] false)) (.cells [.int 3 0, .int 3 0, .str 0 0] false) (.cells [.int 3 k, .int 3 n, .str tl tn] false)
  cases hk : k == 2 with
  | true =>
    simp only [go_sem, reduceCtorEq, Nat.reduceEqDiff, Nat.reduceAdd, Nat.reduceMul, Nat.reduceLeDiff, Nat.reduceSub, Nat.reduceLT, Nat.reduceBEq, Nat.reduceBNe, Int.reduceBEq, Int.reduceBNe, Int.reduceLT, Int.reduceLE, Int.reduceAdd, Int.reduceEq, Int.reduceNe, beq_self_eq_true, bne_self_eq_false, decide_true, decide_false, Bool.not_true, Bool.not_false, Bool.false_eq_true, false_and, and_false, not_true_eq_false, not_false_eq_true, cf21, EvA, hk, Bool.true_or, Bool.false_or]
    first | exact b1.trans b2 | exact ⟨rfl, b1.trans b2⟩
  | false =>
    simp only [go_sem, reduceCtorEq, Nat.reduceEqDiff, Nat.reduceAdd, Nat.reduceMul, Nat.reduceLeDiff, Nat.reduceSub, Nat.reduceLT, Nat.reduceBEq, Nat.reduceBNe, Int.reduceBEq, Int.reduceBNe, Int.reduceLT, Int.reduceLE, Int.reduceAdd, Int.reduceEq, Int.reduceNe, beq_self_eq_true, bne_self_eq_false, decide_true, decide_false, Bool.not_true, Bool.not_false, Bool.false_eq_true, false_and, and_false, not_true_eq_false, not_false_eq_true, cf21, EvA, hk, Bool.true_or, Bool.false_or]
    first | exact b1.trans b2 | exact ⟨rfl, b1.trans b2⟩

theorem push3 {M : Mem} {o : AV} {L : List (List AV)} {x : List AV} (hO : OwnSl M o 3 L) (hw : M.wf) (hx : x.length = 3) (hc : x.all isCell = true) (hm : L.length + 1 ≤ most) (hL : ∀ y ∈ L, y.all isCell = true) :
    ∃ v' M', appO (M.new (.cells x false)) 3 o (.slice M.next 0 1 1) = some (v', M') ∧ OwnSl M' v' 3 (L ++ [x]) ∧ But (ownP o) M M' ∧ M'.wf ∧ ∀ p, ownP v' p → M.next.num ≤ p.num := by
  have hw3 := hw.new (.cells x false)
  have hB4 := But.new (S := fun _ => False) hw (.cells x false)
  obtain ⟨v', M4, e4, hO4, hB5, hw4, hof4⟩ := (hO.old hB4 fun _ _ => id).append hw3 (x := x) hx hc (by omega) hm hL
  refine ⟨v', M4, ?_, hO4, (hB4.mono fun _ h => h.elim).trans hB5, hw4, fun p h => ?_⟩
  · rw [appO_one (x := x) (size := 3) (op := false) (by simp [Mem.new]) hx (by omega)]; exact e4
  · have h1 := hof4 p h
    have h3 := hB4.next
    omega
theorem evL_cells (l : List Ev) : ∀ y ∈ EvL l, y.all isCell = true := by intro y hy; simp [EvL] at hy; obtain ⟨z, _, rfl⟩ := hy; rfl

/-- The ends. -/
def endsL (l : List Ev) : List Ev := l.filter fun e => e.k == 2 || e.k == 3

set_option maxRecDepth 10000 in
theorem picked_ev (h : tbl 20 = some cf20) (h21 : tbl 21 = some cf21) {M : Mem} {a : AV} {l : List Ev} (ha : SlIs M a 3 (EvL l)) (hl : l.length ≤ 1000) :
    CallW tbl 20 (.cons a (.cons (.func (.func 21) .nil .nil) .nil)) M fun r M' => ∃ v, r = .ret v ∧ OwnSl M' v 3 (EvL (endsL l)) ∧ But (fun _ => False) M M' := by
  refine CallW.wf fun hw => ?_
  have la : slLen a = some l.length := by rw [ha.len]; simp [EvL]
  refine CallW.intro h rfl (fr := .nod (.val .leaf a .leaf) (.val .leaf (.func (.func 21) .nil .nil) .leaf)) rfl ?_
  simp only [go_sem, reduceCtorEq, Nat.reduceEqDiff, Nat.reduceAdd, Nat.reduceMul, Nat.reduceLeDiff, Nat.reduceSub, Nat.reduceLT, Nat.reduceBEq, Nat.reduceBNe, Int.reduceBEq, Int.reduceBNe, Int.reduceLT, Int.reduceLE, Int.reduceAdd, Int.reduceEq, Int.reduceNe, beq_self_eq_true, bne_self_eq_false, decide_true, decide_false, Bool.not_true, Bool.not_false, Bool.false_eq_true, false_and, and_false, not_true_eq_false, not_false_eq_true, cf20, la]
  refine loop_wp (I := fun n fr M' => ∃ (i : Nat) (o : AV) (ol : List Ev), i ≤ l.length ∧ n = l.length - i ∧ M'.wf ∧ But (fun p => M.next.num ≤ p.num) M M' ∧ OwnSl M' o 3 (EvL ol) ∧ (∀ p, ownP o p → M.next.num ≤ p.num) ∧ ol.length ≤ i ∧
      ol ++ endsL (l.drop i) = endsL l ∧ fr.get (.i .h) = some (.func (.func 21) .nil .nil) ∧ fr.get (.i (.i .h)) = some o ∧ fr.get (.o (.o (.i .h))) = some a ∧ fr.get (.i (.o (.i .h))) = some (.int 3 l.length) ∧ fr.get (.o (.i (.i .h))) = some (.int 3 i)) (n := l.length) ?_ ?_
  · exact ⟨0, .nilslice, [], by omega, by omega, hw, But.refl _ _, OwnSl.nil _ _, (fun p hp => by obtain ⟨n, s, e⟩ := hp; cases e), by simp, by simp, rfl, rfl, rfl, rfl, rfl⟩
  · rintro n fr M' ⟨i, o, ol, hi, rfl, hw', hB, hO, hof, hol, hres, f1, f2, f3, f4, f5⟩
    simp only [go_sem, reduceCtorEq, Nat.reduceEqDiff, Nat.reduceAdd, Nat.reduceMul, Nat.reduceLeDiff, Nat.reduceSub, Nat.reduceLT, Nat.reduceBEq, Nat.reduceBNe, Int.reduceBEq, Int.reduceBNe, Int.reduceLT, Int.reduceLE, Int.reduceAdd, Int.reduceEq, Int.reduceNe, beq_self_eq_true, bne_self_eq_false, decide_true, decide_false, Bool.not_true, Bool.not_false, Bool.false_eq_true, false_and, and_false, not_true_eq_false, not_false_eq_true, f1, f2, f3, f4, f5]
    refine cdK_b (fun hlt => ?_) (fun hge => ?_)
    · have hi' : i < l.length := by have := of_decide_eq_true hlt; omega
      have hne : EvL l ≠ [] := by intro e; have := congrArg List.length e; simp [EvL] at this; rw [this] at hi'; simp at hi'
      have ha' := ha.but hB fun p' o' n' h' => by have h2 := ha.lt hw hne h'; omega
      obtain ⟨p, po, pn, s1, k1, c1⟩ := ev_at ha' hi'
      simp only [go_sem, reduceCtorEq, Nat.reduceEqDiff, Nat.reduceAdd, Nat.reduceMul, Nat.reduceLeDiff, Nat.reduceSub, Nat.reduceLT, Nat.reduceBEq, Nat.reduceBNe, Int.reduceBEq, Int.reduceBNe, Int.reduceLT, Int.reduceLE, Int.reduceAdd, Int.reduceEq, Int.reduceNe, beq_self_eq_true, bne_self_eq_false, decide_true, decide_false, Bool.not_true, Bool.not_false, Bool.false_eq_true, false_and, and_false, not_true_eq_false, not_false_eq_true, f1, f2, f3, f4, f5, s1, k1, c1, EvR]
      have hf := But.fill hw' (.cells [.int 3 0, .int 3 0, .str 0 0] false) (.cells [.int 3 l[i].k, .int 3 l[i].n, .str l[i].tl l[i].tn] false)
      have hwf := hw'.fill (.cells [.int 3 0, .int 3 0, .str 0 0] false) (.cells [.int 3 l[i].k, .int 3 l[i].n, .str l[i].tl l[i].tn] false)
      refine (endF_spec h21 (e := l[i]) (i := i)).use ?_
      rintro r M2 hw2 ⟨rfl, hB2⟩
      have hf2 := But.fill hw2 (.cells [.int 3 0, .int 3 0, .str 0 0] false) (.cells [.int 3 l[i].k, .int 3 l[i].n, .str l[i].tl l[i].tn] false)
      have hw3 := hw2.fill (.cells [.int 3 0, .int 3 0, .str 0 0] false) (.cells [.int 3 l[i].k, .int 3 l[i].n, .str l[i].tl l[i].tn] false)
      have hB3 : But (fun p => M.next.num ≤ p.num) M ((M2.new (.cells [.int 3 0, .int 3 0, .str 0 0] false)).put M2.next (.cells [.int 3 l[i].k, .int 3 l[i].n, .str l[i].tl l[i].tn] false)) := ((hB.trans (hf.mono fun _ h => h.elim)).trans (hB2.mono fun _ h => h.elim)).trans (hf2.mono fun _ h => h.elim)
      have hO2 : OwnSl ((M2.new (.cells [.int 3 0, .int 3 0, .str 0 0] false)).put M2.next (.cells [.int 3 l[i].k, .int 3 l[i].n, .str l[i].tl l[i].tn] false)) o 3 (EvL ol) := ((hO.old hf fun _ _ => id).old hB2 fun _ _ => id).old hf2 fun _ _ => id
      cases hok : (l[i].k == 2 || l[i].k == 3) with
      | false =>
        simp only [go_sem, reduceCtorEq, Nat.reduceEqDiff, Nat.reduceAdd, Nat.reduceMul, Nat.reduceLeDiff, Nat.reduceSub, Nat.reduceLT, Nat.reduceBEq, Nat.reduceBNe, Int.reduceBEq, Int.reduceBNe, Int.reduceLT, Int.reduceLE, Int.reduceAdd, Int.reduceEq, Int.reduceNe, beq_self_eq_true, bne_self_eq_false, decide_true, decide_false, Bool.not_true, Bool.not_false, Bool.false_eq_true, false_and, and_false, not_true_eq_false, not_false_eq_true, f1, f2, f3, f4, f5, EvA]
        refine ⟨l.length - (i + 1), by omega, i + 1, o, ol, by omega, rfl, hw3, hB3, hO2, hof, by omega, ?_, ?_, ?_, ?_, ?_, ?_⟩
        · rw [← hres, List.drop_eq_getElem_cons hi']; simp only [endsL, List.filter_cons, hok, if_true, Bool.false_eq_true, if_false, List.append_assoc, List.cons_append, List.nil_append]
        all_goals simp [Tr.get_set, f1, f2, f3, f4, f5, wrap_succ (show i < 2 ^ 62 by omega)]
      | true =>
        obtain ⟨v', M4, e5, hO4, hB5, hw4, hof4⟩ := push3 hO2 hw3 (x := [.int 3 l[i].k, .int 3 l[i].n, .str l[i].tl l[i].tn]) rfl rfl (by simp [EvL, most]; omega) (evL_cells _)
        simp only [go_sem, reduceCtorEq, Nat.reduceEqDiff, Nat.reduceAdd, Nat.reduceMul, Nat.reduceLeDiff, Nat.reduceSub, Nat.reduceLT, Nat.reduceBEq, Nat.reduceBNe, Int.reduceBEq, Int.reduceBNe, Int.reduceLT, Int.reduceLE, Int.reduceAdd, Int.reduceEq, Int.reduceNe, beq_self_eq_true, bne_self_eq_false, decide_true, decide_false, Bool.not_true, Bool.not_false, Bool.false_eq_true, false_and, and_false, not_true_eq_false, not_false_eq_true] at e5
        simp only [go_sem, reduceCtorEq, Nat.reduceEqDiff, Nat.reduceAdd, Nat.reduceMul, Nat.reduceLeDiff, Nat.reduceSub, Nat.reduceLT, Nat.reduceBEq, Nat.reduceBNe, Int.reduceBEq, Int.reduceBNe, Int.reduceLT, Int.reduceLE, Int.reduceAdd, Int.reduceEq, Int.reduceNe, beq_self_eq_true, bne_self_eq_false, decide_true, decide_false, Bool.not_true, Bool.not_false, Bool.false_eq_true, false_and, and_false, not_true_eq_false, not_false_eq_true, f1, f2, f3, f4, f5, e5, EvA]
        refine ⟨l.length - (i + 1), by omega, i + 1, v', ol ++ [l[i]], by omega, rfl, hw4, ?_, ?_, ?_, by simp; omega, ?_, ?_, ?_, ?_, ?_, ?_⟩
        · exact hB3.trans (hB5.mono fun p h => hof p h)
        · simpa [EvL, EvR] using hO4
        · intro p h
          have h1 := hof4 p h
          have h2 := hB3.next
          omega
        · rw [← hres, List.drop_eq_getElem_cons hi']; simp only [endsL, List.filter_cons, hok, if_true, Bool.false_eq_true, if_false, List.append_assoc, List.cons_append, List.nil_append]
        all_goals simp [Tr.get_set, f1, f2, f3, f4, f5, wrap_succ (show i < 2 ^ 62 by omega)]
    · have : i = l.length := by have := of_decide_eq_false hge; omega
      subst this
      simp only [go_sem, reduceCtorEq, Nat.reduceEqDiff, Nat.reduceAdd, Nat.reduceMul, Nat.reduceLeDiff, Nat.reduceSub, Nat.reduceLT, Nat.reduceBEq, Nat.reduceBNe, Int.reduceBEq, Int.reduceBNe, Int.reduceLT, Int.reduceLE, Int.reduceAdd, Int.reduceEq, Int.reduceNe, beq_self_eq_true, bne_self_eq_false, decide_true, decide_false, Bool.not_true, Bool.not_false, Bool.false_eq_true, false_and, and_false, not_true_eq_false, not_false_eq_true, f1, f2, f3, f4, f5]
      refine ⟨o, rfl, ?_, ?_⟩
      · have hres' : ol = endsL l := by simpa [endsL] using hres
        rw [← hres']; exact hO
      · exact But.fresh hw (hB.mono fun p h => .inr h)

theorem endR_ends : ∀ l : List Ev, endR l = match endsL l with | [] => (0, 0, 0) | e :: _ => if e.k = 2 then (1, e.tl, e.tn) else (2, e.tl, e.tn)
  | [] => rfl
  | e :: r => by
    by_cases h2 : e.k = 2
    · simp [endR, endsL, h2]
    · by_cases h3 : e.k = 3
      · simp [endR, endsL, h3]
      · simp only [endR, h2, h3, if_false]
        rw [endR_ends r]
        simp [endsL, h2, h3]

set_option maxRecDepth 10000 in
theorem end_spec (h : tbl 6 = some cf6) (h20 : tbl 20 = some cf20) (h21 : tbl 21 = some cf21) {a : AV} {M : Mem} {l : List Ev} (ha : SlIs M a 3 (EvL l)) (hl : l.length ≤ 1000) :
    CallW tbl 6 (.cons a .nil) M fun r M' => r = .ret (.tuple (.cons (.int 3 (endR l).1) (.cons (.str (endR l).2.1 (endR l).2.2) .nil))) ∧ But (fun _ => False) M M' := by
  refine CallW.wf fun hw => ?_
  refine CallW.intro h rfl (fr := .nod (.val .leaf a .leaf) .leaf) rfl ?_
  simp only [go_sem, reduceCtorEq, Nat.reduceEqDiff, Nat.reduceAdd, Nat.reduceMul, Nat.reduceLeDiff, Nat.reduceSub, Nat.reduceLT, Nat.reduceBEq, Nat.reduceBNe, Int.reduceBEq, Int.reduceBNe, Int.reduceLT, Int.reduceLE, Int.reduceAdd, Int.reduceEq, Int.reduceNe, beq_self_eq_true, bne_self_eq_false, decide_true, decide_false, Bool.not_true, Bool.not_false, Bool.false_eq_true, false_and, and_false, not_true_eq_false, not_false_eq_true, cf6]
  refine (picked_ev h20 h21 ha hl).use ?_
  rintro r M' hw' ⟨v, rfl, hO, hB⟩
  have lv : slLen v = some (endsL l).length := by rw [hO.rows.len]; simp [EvL]
  rw [endR_ends]
  cases he : endsL l with
  | nil =>
    rw [he] at lv
    simp only [go_sem, reduceCtorEq, Nat.reduceEqDiff, Nat.reduceAdd, Nat.reduceMul, Nat.reduceLeDiff, Nat.reduceSub, Nat.reduceLT, Nat.reduceBEq, Nat.reduceBNe, Int.reduceBEq, Int.reduceBNe, Int.reduceLT, Int.reduceLE, Int.reduceAdd, Int.reduceEq, Int.reduceNe, beq_self_eq_true, bne_self_eq_false, decide_true, decide_false, Bool.not_true, Bool.not_false, Bool.false_eq_true, false_and, and_false, not_true_eq_false, not_false_eq_true, lv, List.length_nil]
    first | exact hB | exact ⟨rfl, hB⟩
  | cons e r =>
    rw [he] at lv hO
    obtain ⟨p, o, n, s1, k1, c1⟩ := ev_at hO.rows (i := 0) (by simp)
    simp only [List.getElem_cons_zero, Nat.zero_mul, Nat.add_zero] at c1
    have c2 : MB.cell (M'.get p) o = some (.int 3 e.k) := by have := MB.cell_row c1 (j := 0) (by omega); simpa [EvR] using this
    have c3 : MB.cell (M'.get p) (o + 2) = some (.str e.tl e.tn) := by have := MB.cell_row c1 (j := 2) (by omega); simpa [EvR] using this
    have z1 : (((r.length + 1 : Nat) : Int) == 0) = false := by simp; omega
    cases hk : e.k == 2 with
    | true =>
      have hk' : e.k = 2 := by simpa using hk
      simp only [go_sem, reduceCtorEq, Nat.reduceEqDiff, Nat.reduceAdd, Nat.reduceMul, Nat.reduceLeDiff, Nat.reduceSub, Nat.reduceLT, Nat.reduceBEq, Nat.reduceBNe, Int.reduceBEq, Int.reduceBNe, Int.reduceLT, Int.reduceLE, Int.reduceAdd, Int.reduceEq, Int.reduceNe, beq_self_eq_true, bne_self_eq_false, decide_true, decide_false, Bool.not_true, Bool.not_false, Bool.false_eq_true, false_and, and_false, not_true_eq_false, not_false_eq_true, lv, s1, k1, c2, c3, List.length_cons, z1, hk, Nat.add_zero, hk', if_true, if_false]
      exact hB
    | false =>
      have hk' : e.k ≠ 2 := by simpa using hk
      simp only [go_sem, reduceCtorEq, Nat.reduceEqDiff, Nat.reduceAdd, Nat.reduceMul, Nat.reduceLeDiff, Nat.reduceSub, Nat.reduceLT, Nat.reduceBEq, Nat.reduceBNe, Int.reduceBEq, Int.reduceBNe, Int.reduceLT, Int.reduceLE, Int.reduceAdd, Int.reduceEq, Int.reduceNe, beq_self_eq_true, bne_self_eq_false, decide_true, decide_false, Bool.not_true, Bool.not_false, Bool.false_eq_true, false_and, and_false, not_true_eq_false, not_false_eq_true, lv, s1, k1, c2, c3, List.length_cons, z1, hk, Nat.add_zero, hk', if_true, if_false]
      exact hB
end Go.Proofs.Ytfnbbbcnbfhclaa

end
section
namespace Go.Proofs.Ytfnbbbcnbfhclaa
open Go.Dx
variable {tbl : Nat → Option CFunc}

theorem finsL_len : ∀ (s : PS) (l : List Ev) (i : Nat), (finsL s l i).length ≤ l.length
  | _, [], _ => Nat.le_refl _
  | s, e :: r, i => by
    have := finsL_len (s.go e) r (i + 1)
    unfold finsL
    split <;> simp <;> omega
theorem outsL_len (mark : Int) : ∀ (l : List Ev), (outsL mark l).length ≤ l.length
  | [] => Nat.le_refl _
  | e :: r => by
    have := outsL_len mark r
    unfold outsL
    split <;> simp <;> omega

set_option maxRecDepth 10000 in
theorem reads_spec {cw : CFunc} (h3 : tbl 3 = some cf3) (h6 : tbl 6 = some cf6) (h7 : tbl 7 = some cf7) (h8 : tbl 8 = some cf8) (h9 : tbl 9 = some cf9) (h10 : tbl 10 = some cf10) (h11 : tbl 11 = some cf11) (h12 : tbl 12 = some cf12) (h13 : tbl 13 = some cf13)
    (h14 : tbl 14 = some cw) (hcw : cw.konst = some (.bool true)) (h20 : tbl 20 = some cf20) (h21 : tbl 21 = some cf21) (h22 : tbl 22 = some cf22) (h23 : tbl 23 = some cf23) (h24 : tbl 24 = some cf24) (h25 : tbl 25 = some cf25) (h26 : tbl 26 = some cf26)
    {a a' : AV} {M : Mem} {n : Nat} {l : List Ev} {mark : Int} (hn : slLen a = some n) (hs : sliceM M 3 none (some (Min.min n 300)) none a = some a') (ha : SlIs M a' 3 (EvL l)) (hl : l.length ≤ 300) :
    CallW tbl 3 (.cons a (.cons (.int 3 mark) .nil)) M fun r _ => r = .ret (.bool true) := by
  refine CallW.wf fun hw => ?_
  refine CallW.intro h3 rfl (fr := .nod (.val .leaf a .leaf) (.val .leaf (.int 3 mark) .leaf)) rfl ?_
  have hmin : (if 300 < (n : Int) then 300 else (n : Int)) = ((Min.min n 300 : Nat) : Int) := by split <;> omega
  simp only [go_sem, reduceCtorEq, Nat.reduceEqDiff, Nat.reduceAdd, Nat.reduceMul, Nat.reduceLeDiff, Nat.reduceSub, Nat.reduceLT, Nat.reduceBEq, Nat.reduceBNe, Int.reduceBEq, Int.reduceBNe, Int.reduceLT, Int.reduceLE, Int.reduceAdd, Int.reduceEq, Int.reduceNe, beq_self_eq_true, bne_self_eq_false, decide_true, decide_false, Bool.not_true, Bool.not_false, Bool.false_eq_true, false_and, and_false, not_true_eq_false, not_false_eq_true, cf3, hn, hmin, hs]
  refine (end_spec h6 h20 h21 ha (by omega)).use ?_
  rintro r1 M1 w1 ⟨rfl, b1⟩
  have ha1 := ha.but b1 fun _ _ _ _ => id
  simp only [go_sem, reduceCtorEq, Nat.reduceEqDiff, Nat.reduceAdd, Nat.reduceMul, Nat.reduceLeDiff, Nat.reduceSub, Nat.reduceLT, Nat.reduceBEq, Nat.reduceBNe, Int.reduceBEq, Int.reduceBNe, Int.reduceLT, Int.reduceLE, Int.reduceAdd, Int.reduceEq, Int.reduceNe, beq_self_eq_true, bne_self_eq_false, decide_true, decide_false, Bool.not_true, Bool.not_false, Bool.false_eq_true, false_and, and_false, not_true_eq_false, not_false_eq_true]
  refine (refEnd_spec h7 ha1 (by omega)).use ?_
  rintro r2 M2 w2 ⟨rfl, rfl⟩
  simp only [go_sem, reduceCtorEq, Nat.reduceEqDiff, Nat.reduceAdd, Nat.reduceMul, Nat.reduceLeDiff, Nat.reduceSub, Nat.reduceLT, Nat.reduceBEq, Nat.reduceBNe, Int.reduceBEq, Int.reduceBNe, Int.reduceLT, Int.reduceLE, Int.reduceAdd, Int.reduceEq, Int.reduceNe, beq_self_eq_true, bne_self_eq_false, decide_true, decide_false, Bool.not_true, Bool.not_false, Bool.false_eq_true, false_and, and_false, not_true_eq_false, not_false_eq_true]
  refine (fins_spec h9 h22 h23 h24 ha1 (by omega)).use ?_
  rintro r3 M3 w3 ⟨v3, rfl, o3, b3⟩
  have ha3 := ha1.but b3 fun _ _ _ _ => id
  simp only [go_sem, reduceCtorEq, Nat.reduceEqDiff, Nat.reduceAdd, Nat.reduceMul, Nat.reduceLeDiff, Nat.reduceSub, Nat.reduceLT, Nat.reduceBEq, Nat.reduceBNe, Int.reduceBEq, Int.reduceBNe, Int.reduceLT, Int.reduceLE, Int.reduceAdd, Int.reduceEq, Int.reduceNe, beq_self_eq_true, bne_self_eq_false, decide_true, decide_false, Bool.not_true, Bool.not_false, Bool.false_eq_true, false_and, and_false, not_true_eq_false, not_false_eq_true]
  refine (refFins_spec h10 ha3 (by omega)).use ?_
  rintro r4 M4 w4 ⟨v4, rfl, o4, b4⟩
  have ha4 := ha3.but b4 fun _ _ _ _ => id
  simp only [go_sem, reduceCtorEq, Nat.reduceEqDiff, Nat.reduceAdd, Nat.reduceMul, Nat.reduceLeDiff, Nat.reduceSub, Nat.reduceLT, Nat.reduceBEq, Nat.reduceBNe, Int.reduceBEq, Int.reduceBNe, Int.reduceLT, Int.reduceLE, Int.reduceAdd, Int.reduceEq, Int.reduceNe, beq_self_eq_true, bne_self_eq_false, decide_true, decide_false, Bool.not_true, Bool.not_false, Bool.false_eq_true, false_and, and_false, not_true_eq_false, not_false_eq_true]
  refine (ints_spec h8 ((o3.old b4 fun _ _ => id).rows) o4.rows ?_).use ?_
  · have := finsL_len ⟨0, [], false⟩ l 0; omega
  rintro r5 M5 w5 ⟨rfl, rfl⟩
  simp only [go_sem, reduceCtorEq, Nat.reduceEqDiff, Nat.reduceAdd, Nat.reduceMul, Nat.reduceLeDiff, Nat.reduceSub, Nat.reduceLT, Nat.reduceBEq, Nat.reduceBNe, Int.reduceBEq, Int.reduceBNe, Int.reduceLT, Int.reduceLE, Int.reduceAdd, Int.reduceEq, Int.reduceNe, beq_self_eq_true, bne_self_eq_false, decide_true, decide_false, Bool.not_true, Bool.not_false, Bool.false_eq_true, false_and, and_false, not_true_eq_false, not_false_eq_true]
  refine (outs_spec h12 h25 h26 ha4 (by omega)).use ?_
  rintro r6 M6 w6 ⟨v6, rfl, o6, b6⟩
  have ha6 := ha4.but b6 fun _ _ _ _ => id
  simp only [go_sem, reduceCtorEq, Nat.reduceEqDiff, Nat.reduceAdd, Nat.reduceMul, Nat.reduceLeDiff, Nat.reduceSub, Nat.reduceLT, Nat.reduceBEq, Nat.reduceBNe, Int.reduceBEq, Int.reduceBNe, Int.reduceLT, Int.reduceLE, Int.reduceAdd, Int.reduceEq, Int.reduceNe, beq_self_eq_true, bne_self_eq_false, decide_true, decide_false, Bool.not_true, Bool.not_false, Bool.false_eq_true, false_and, and_false, not_true_eq_false, not_false_eq_true]
  refine (refOuts_spec h13 ha6 (by omega)).use ?_
  rintro r7 M7 w7 ⟨v7, rfl, o7, b7⟩
  simp only [go_sem, reduceCtorEq, Nat.reduceEqDiff, Nat.reduceAdd, Nat.reduceMul, Nat.reduceLeDiff, Nat.reduceSub, Nat.reduceLT, Nat.reduceBEq, Nat.reduceBNe, Int.reduceBEq, Int.reduceBNe, Int.reduceLT, Int.reduceLE, Int.reduceAdd, Int.reduceEq, Int.reduceNe, beq_self_eq_true, bne_self_eq_false, decide_true, decide_false, Bool.not_true, Bool.not_false, Bool.false_eq_true, false_and, and_false, not_true_eq_false, not_false_eq_true]
  refine (texts_spec h11 ((o6.old b7 fun _ _ => id).rows) o7.rows ?_).use ?_
  · have := outsL_len mark l; omega
  rintro r8 M8 w8 ⟨rfl, rfl⟩
  simp only [go_sem, reduceCtorEq, Nat.reduceEqDiff, Nat.reduceAdd, Nat.reduceMul, Nat.reduceLeDiff, Nat.reduceSub, Nat.reduceLT, Nat.reduceBEq, Nat.reduceBNe, Int.reduceBEq, Int.reduceBNe, Int.reduceLT, Int.reduceLE, Int.reduceAdd, Int.reduceEq, Int.reduceNe, beq_self_eq_true, bne_self_eq_false, decide_true, decide_false, Bool.not_true, Bool.not_false, Bool.false_eq_true, false_and, and_false, not_true_eq_false, not_false_eq_true]
  refine (CallW.konst h14 hcw ?_ : CallW tbl 14 .nil _ _)
  simp only [go_sem, reduceCtorEq, Nat.reduceEqDiff, Nat.reduceAdd, Nat.reduceMul, Nat.reduceLeDiff, Nat.reduceSub, Nat.reduceLT, Nat.reduceBEq, Nat.reduceBNe, Int.reduceBEq, Int.reduceBNe, Int.reduceLT, Int.reduceLE, Int.reduceAdd, Int.reduceEq, Int.reduceNe, beq_self_eq_true, bne_self_eq_false, decide_true, decide_false, Bool.not_true, Bool.not_false, Bool.false_eq_true, false_and, and_false, not_true_eq_false, not_false_eq_true]
end Go.Proofs.Ytfnbbbcnbfhclaa

end
section
namespace Go.Proofs.Ytfnbbbcnbfhclaa
open Go.Dx
variable {tbl : Nat → Option CFunc}

theorem event_spec (h : tbl 15 = some cf15) {M : Mem} {k n : Int} {tl tn : Nat} :
    CallW tbl 15 (.cons (.int 3 k) (.cons (.int 3 n) (.cons (.str tl tn) .nil))) M fun r M' => r = .ret (EvA ⟨k, n, tl, tn⟩) ∧ But (fun _ => False) M M' := by
  refine CallW.wf fun hw => ?_
  refine CallW.intro h rfl (fr := .nod (.val (.val .leaf (.str tl tn) .leaf) (.int 3 k) .leaf) (.val .leaf (.int 3 n) .leaf)) rfl ?_
  have b2 := But.fill hw (.cells [.int 3 0, .int 3 0, .str 0 0] false) (.cells [.int 3 k, .int 3 n, .str tl tn] false)
  simp only [go_sem, reduceCtorEq, Nat.reduceEqDiff, Nat.reduceAdd, Nat.reduceMul, Nat.reduceLeDiff, Nat.reduceSub, Nat.reduceLT, Nat.reduceBEq, Nat.reduceBNe, Int.reduceBEq, Int.reduceBNe, Int.reduceLT, Int.reduceLE, Int.reduceAdd, Int.reduceEq, Int.reduceNe, beq_self_eq_true, bne_self_eq_false, decide_true, decide_false, Bool.not_true, Bool.not_false, Bool.false_eq_true, false_and, and_false, not_true_eq_false, not_false_eq_true, cf15, EvA]
  exact b2

/-- Bytes. -/
def U8L (l : List Nat) : List (List AV) := l.map fun n : Nat => [.int 4 (n : Int)]
theorem u8_at {M : Mem} {a : AV} {l : List Nat} (h : SlIs M a 1 (U8L l)) {i : Nat} (hi : i < l.length) : ∃ p o n, slAt a = some (p, o, n) ∧ i < n ∧ MB.cell (M.get p) (o + i * 1) = some (.int 4 ((l[i]'hi : Nat) : Int)) := by
  obtain ⟨p, o, h1, h2⟩ := h.at_ (i := i) (by simpa [U8L] using hi)
  refine ⟨p, o, _, h1, by simpa [U8L] using hi, MB.cell_one ?_⟩
  rw [h2]
  simp [U8L, List.getElem?_eq_getElem hi]
theorem rem2 (n : Nat) : arithI .rem 4 (n : Int) 2 = some (.int 4 ((n % 2 : Nat) : Int)) := by
  simp only [arithI]; rw [if_neg (by decide)]; rfl

def oddN : List Nat → Nat
  | [] => 0
  | n :: r => n % 2 + oddN r
theorem oddN_take (l : List Nat) {i : Nat} (hi : i < l.length) : oddN (l.take (i + 1)) = oddN (l.take i) + l[i] % 2 := by
  induction l generalizing i with
  | nil => simp at hi
  | cons a r ih =>
    cases i with
    | zero => simp [oddN]
    | succ i =>
      have := ih (i := i) (by simpa using hi)
      simp only [List.take_succ_cons, oddN, List.getElem_cons_succ, this]
      omega
theorem oddN_le : ∀ l, oddN l ≤ l.length
  | [] => Nat.le_refl _
  | n :: r => by
    have := oddN_le r
    have := Nat.mod_lt n (show 0 < 2 by omega)
    simp only [oddN, List.length_cons]; omega

theorem odd_spec (h : tbl 16 = some cf16) {M : Mem} {a : AV} {l : List Nat} (ha : SlIs M a 1 (U8L l)) :
    CallW tbl 16 (.cons a .nil) M fun r M' => r = .ret (.int 3 (oddN (l.take 10) : Nat)) ∧ M' = M := by
  refine CallW.intro h rfl (fr := .nod (.val .leaf a .leaf) .leaf) rfl ?_
  have la : slLen a = some l.length := by rw [ha.len]; simp [U8L]
  simp only [go_sem, reduceCtorEq, Nat.reduceEqDiff, Nat.reduceAdd, Nat.reduceMul, Nat.reduceLeDiff, Nat.reduceSub, Nat.reduceLT, Nat.reduceBEq, Nat.reduceBNe, Int.reduceBEq, Int.reduceBNe, Int.reduceLT, Int.reduceLE, Int.reduceAdd, Int.reduceEq, Int.reduceNe, beq_self_eq_true, bne_self_eq_false, decide_true, decide_false, Bool.not_true, Bool.not_false, Bool.false_eq_true, false_and, and_false, not_true_eq_false, not_false_eq_true, cf16]
  refine loop_wp (I := fun n fr M' => ∃ i, i ≤ l.length ∧ i ≤ 10 ∧ n = l.length - i ∧ M' = M ∧ fr.get (.o .h) = some a ∧ fr.get (.i (.o .h)) = some (.int 3 (oddN (l.take i) : Nat)) ∧ fr.get (.o (.i .h)) = some (.int 3 (i : Nat))) (n := l.length) ?_ ?_
  · exact ⟨0, by omega, by omega, by omega, rfl, rfl, rfl, rfl⟩
  · rintro n fr M' ⟨i, hi, hi10, rfl, rfl, f1, f2, f3⟩
    by_cases hlt : i < l.length
    · have g1 : decide ((i : Int) < (l.length : Int)) = true := by simp; omega
      by_cases h10 : i < 10
      · have g2 : decide ((i : Int) < 10) = true := by simp; omega
        obtain ⟨p, o, n, s1, k1, c1⟩ := u8_at ha hlt
        have hr := rem2 l[i]
        have := Nat.mod_lt l[i] (show 0 < 2 by omega)
        have h3 := oddN_le (l.take i)
        have h4 : (l.take i).length ≤ 10 := by simp; omega
        have e1 : (kindOf 3).wrap ((l[i] % 2 : Nat) : Int) = ((l[i] % 2 : Nat) : Int) := wrap64 (by omega) (by omega)
        have e2 : IntKind.i64.wrap (((oddN (l.take i) : Nat) : Int) + ((l[i] % 2 : Nat) : Int)) = ((oddN (l.take (i + 1)) : Nat) : Int) := by rw [wrap64 (by omega) (by omega), oddN_take l hlt]; rfl
        simp only [go_sem, reduceCtorEq, Nat.reduceEqDiff, Nat.reduceAdd, Nat.reduceMul, Nat.reduceLeDiff, Nat.reduceSub, Nat.reduceLT, Nat.reduceBEq, Nat.reduceBNe, Int.reduceBEq, Int.reduceBNe, Int.reduceLT, Int.reduceLE, Int.reduceAdd, Int.reduceEq, Int.reduceNe, beq_self_eq_true, bne_self_eq_false, decide_true, decide_false, Bool.not_true, Bool.not_false, Bool.false_eq_true, false_and, and_false, not_true_eq_false, not_false_eq_true, f1, f2, f3, la, g1, g2, s1, k1, c1, hr, e1, e2]
        refine ⟨l.length - (i + 1), by omega, i + 1, by omega, by omega, rfl, rfl, ?_, ?_, ?_⟩
        · simp [Tr.get_set, f1]
        · simp [Tr.get_set]
        · simp [Tr.get_set, f3, wrap_succ (show i < 2 ^ 62 by omega)]
      · have g2 : decide ((i : Int) < 10) = false := by simp; omega
        have : i = 10 := by omega
        subst this
        simp only [go_sem, reduceCtorEq, Nat.reduceEqDiff, Nat.reduceAdd, Nat.reduceMul, Nat.reduceLeDiff, Nat.reduceSub, Nat.reduceLT, Nat.reduceBEq, Nat.reduceBNe, Int.reduceBEq, Int.reduceBNe, Int.reduceLT, Int.reduceLE, Int.reduceAdd, Int.reduceEq, Int.reduceNe, beq_self_eq_true, bne_self_eq_false, decide_true, decide_false, Bool.not_true, Bool.not_false, Bool.false_eq_true, false_and, and_false, not_true_eq_false, not_false_eq_true, f1, f2, f3, la, g1, g2]
    · have g1 : decide ((i : Int) < (l.length : Int)) = false := by simp; omega
      have e : l.take i = l.take 10 := by rw [List.take_of_length_le (by omega), List.take_of_length_le (by omega)]
      simp only [go_sem, reduceCtorEq, Nat.reduceEqDiff, Nat.reduceAdd, Nat.reduceMul, Nat.reduceLeDiff, Nat.reduceSub, Nat.reduceLT, Nat.reduceBEq, Nat.reduceBNe, Int.reduceBEq, Int.reduceBNe, Int.reduceLT, Int.reduceLE, Int.reduceAdd, Int.reduceEq, Int.reduceNe, beq_self_eq_true, bne_self_eq_false, decide_true, decide_false, Bool.not_true, Bool.not_false, Bool.false_eq_true, false_and, and_false, not_true_eq_false, not_false_eq_true, f1, f2, f3, la, g1, e]

theorem intsV_spec (h : tbl 17 = some cf17) {a b : AV} {M : Mem} {l m : List Int} (ha : SlIs M a 1 (IntL l)) (hb : SlIs M b 1 (IntL m)) (hl : l.length < 2 ^ 62) :
    CallW tbl 17 (.cons a (.cons b .nil)) M fun r M' => r = .ret (.bool (decide (l = m))) ∧ M' = M := by
  refine CallW.intro h rfl (fr := .nod (.val .leaf a .leaf) (.val .leaf b .leaf)) rfl ?_
  have la : slLen a = some l.length := by rw [ha.len]; simp [IntL]
  have lb : slLen b = some m.length := by rw [hb.len]; simp [IntL]
  simp only [go_sem, reduceCtorEq, Nat.reduceEqDiff, Nat.reduceAdd, Nat.reduceMul, Nat.reduceLeDiff, Nat.reduceSub, Nat.reduceLT, Nat.reduceBEq, Nat.reduceBNe, Int.reduceBEq, Int.reduceBNe, Int.reduceLT, Int.reduceLE, Int.reduceAdd, Int.reduceEq, Int.reduceNe, beq_self_eq_true, bne_self_eq_false, decide_true, decide_false, Bool.not_true, Bool.not_false, Bool.false_eq_true, false_and, and_false, not_true_eq_false, not_false_eq_true, cf17, la, lb]
  refine cdK_b (fun hne => ?_) (fun heq => ?_)
  · have : l ≠ m := fun e => by rw [e] at hne; simp at hne
    simp only [go_sem, reduceCtorEq, Nat.reduceEqDiff, Nat.reduceAdd, Nat.reduceMul, Nat.reduceLeDiff, Nat.reduceSub, Nat.reduceLT, Nat.reduceBEq, Nat.reduceBNe, Int.reduceBEq, Int.reduceBNe, Int.reduceLT, Int.reduceLE, Int.reduceAdd, Int.reduceEq, Int.reduceNe, beq_self_eq_true, bne_self_eq_false, decide_true, decide_false, Bool.not_true, Bool.not_false, Bool.false_eq_true, false_and, and_false, not_true_eq_false, not_false_eq_true]
    simp [this]
  · have hlen : l.length = m.length := by
      have : (l.length : Int) = m.length := by simpa using heq
      omega
    simp only [go_sem, reduceCtorEq, Nat.reduceEqDiff, Nat.reduceAdd, Nat.reduceMul, Nat.reduceLeDiff, Nat.reduceSub, Nat.reduceLT, Nat.reduceBEq, Nat.reduceBNe, Int.reduceBEq, Int.reduceBNe, Int.reduceLT, Int.reduceLE, Int.reduceAdd, Int.reduceEq, Int.reduceNe, beq_self_eq_true, bne_self_eq_false, decide_true, decide_false, Bool.not_true, Bool.not_false, Bool.false_eq_true, false_and, and_false, not_true_eq_false, not_false_eq_true]
    refine loop_wp (I := fun n fr M' => ∃ i, i ≤ l.length ∧ n = l.length - i ∧ M' = M ∧ l.take i = m.take i ∧ fr.get (.o .h) = some a ∧ fr.get (.i .h) = some b ∧ fr.get (.i (.i .h)) = some (.int 3 (i : Nat))) (n := l.length) ?_ ?_
    · exact ⟨0, by omega, by omega, rfl, by simp, rfl, rfl, rfl⟩
    · rintro n fr M' ⟨i, hi, rfl, rfl, htk, f1, f2, f3⟩
      simp only [go_sem, reduceCtorEq, Nat.reduceEqDiff, Nat.reduceAdd, Nat.reduceMul, Nat.reduceLeDiff, Nat.reduceSub, Nat.reduceLT, Nat.reduceBEq, Nat.reduceBNe, Int.reduceBEq, Int.reduceBNe, Int.reduceLT, Int.reduceLE, Int.reduceAdd, Int.reduceEq, Int.reduceNe, beq_self_eq_true, bne_self_eq_false, decide_true, decide_false, Bool.not_true, Bool.not_false, Bool.false_eq_true, false_and, and_false, not_true_eq_false, not_false_eq_true, f1, f2, f3, la]
      refine cdK_b (fun hlt => ?_) (fun hge => ?_)
      · have hi' : i < l.length := by have := of_decide_eq_true hlt; omega
        obtain ⟨p, o, n, s1, k1, c1⟩ := int_at ha hi'
        obtain ⟨q, u, n', s2, k2, c2⟩ := int_at hb (hlen ▸ hi')
        simp only [go_sem, reduceCtorEq, Nat.reduceEqDiff, Nat.reduceAdd, Nat.reduceMul, Nat.reduceLeDiff, Nat.reduceSub, Nat.reduceLT, Nat.reduceBEq, Nat.reduceBNe, Int.reduceBEq, Int.reduceBNe, Int.reduceLT, Int.reduceLE, Int.reduceAdd, Int.reduceEq, Int.reduceNe, beq_self_eq_true, bne_self_eq_false, decide_true, decide_false, Bool.not_true, Bool.not_false, Bool.false_eq_true, false_and, and_false, not_true_eq_false, not_false_eq_true, f1, f2, f3, s1, k1, c1, s2, k2, c2]
        refine cdK_b (fun hne => ?_) (fun heq => ?_)
        · have : l ≠ m := fun e => by subst e; simp at hne
          simp only [go_sem, reduceCtorEq, Nat.reduceEqDiff, Nat.reduceAdd, Nat.reduceMul, Nat.reduceLeDiff, Nat.reduceSub, Nat.reduceLT, Nat.reduceBEq, Nat.reduceBNe, Int.reduceBEq, Int.reduceBNe, Int.reduceLT, Int.reduceLE, Int.reduceAdd, Int.reduceEq, Int.reduceNe, beq_self_eq_true, bne_self_eq_false, decide_true, decide_false, Bool.not_true, Bool.not_false, Bool.false_eq_true, false_and, and_false, not_true_eq_false, not_false_eq_true]
          simp [this]
        · simp only [go_sem, reduceCtorEq, Nat.reduceEqDiff, Nat.reduceAdd, Nat.reduceMul, Nat.reduceLeDiff, Nat.reduceSub, Nat.reduceLT, Nat.reduceBEq, Nat.reduceBNe, Int.reduceBEq, Int.reduceBNe, Int.reduceLT, Int.reduceLE, Int.reduceAdd, Int.reduceEq, Int.reduceNe, beq_self_eq_true, bne_self_eq_false, decide_true, decide_false, Bool.not_true, Bool.not_false, Bool.false_eq_true, false_and, and_false, not_true_eq_false, not_false_eq_true, f1, f2, f3]
          refine ⟨l.length - (i + 1), by omega, i + 1, by omega, rfl, rfl, ?_, ?_, ?_, ?_⟩
          · rw [List.take_succ_eq_append_getElem hi', List.take_succ_eq_append_getElem (hlen ▸ hi'), htk]
            congr 2
            simpa using heq
          all_goals simp [Tr.get_set, f1, f2, wrap_succ (show i < 2 ^ 62 by omega)]
      · have : i = l.length := by have := of_decide_eq_false hge; omega
        subst this
        rw [List.take_length, hlen, List.take_length] at htk
        simp only [go_sem, reduceCtorEq, Nat.reduceEqDiff, Nat.reduceAdd, Nat.reduceMul, Nat.reduceLeDiff, Nat.reduceSub, Nat.reduceLT, Nat.reduceBEq, Nat.reduceBNe, Int.reduceBEq, Int.reduceBNe, Int.reduceLT, Int.reduceLE, Int.reduceAdd, Int.reduceEq, Int.reduceNe, beq_self_eq_true, bne_self_eq_false, decide_true, decide_false, Bool.not_true, Bool.not_false, Bool.false_eq_true, false_and, and_false, not_true_eq_false, not_false_eq_true]
        simp [htk]
end Go.Proofs.Ytfnbbbcnbfhclaa

end
section
namespace Go.Proofs.Ytfnbbbcnbfhclaa
open Go.Dx
variable {tbl : Nat → Option CFunc}

/-! What is told, by definition. -/
def evOut (k : Nat) (t : Nat) : Ev := ⟨1, if t % 2 = 1 then (k : Int) else 0, 0, 0⟩
def blk (tl : List Nat) (k : Nat) : List Ev := ⟨4, k, 0, 0⟩ :: (tl.map (evOut k) ++ [⟨5, k, 0, 0⟩])
def evl (tl : List Nat) : Nat → List Ev
  | 0 => []
  | m + 1 => evl tl m ++ blk tl (m + 1)

def goL (s : PS) (l : List Ev) : PS := l.foldl PS.go s
theorem finsL_app : ∀ (a b : List Ev) (s : PS) (i : Nat), finsL s (a ++ b) i = finsL s a i ++ finsL (goL s a) b (i + a.length)
  | [], b, s, i => rfl
  | e :: a, b, s, i => by
    have ih := finsL_app a b (s.go e) (i + 1)
    have h1 : i + 1 + a.length = i + (e :: a).length := by simp; omega
    rw [h1] at ih
    simp only [List.cons_append, finsL]
    rw [ih]
    split
    · rfl
    · rfl
theorem goL_app (a b : List Ev) (s : PS) : goL s (a ++ b) = goL (goL s a) b := by simp [goL]

/-- The state behind some finalisers. -/
def PSm (m : Nat) (s : PS) : Prop := s.now = 0 ∧ s.ended = false ∧ ∀ n : Int, n ∈ s.fins ↔ 1 ≤ n ∧ n ≤ m

theorem outs_ok (k : Nat) (hk : 1 ≤ k) : ∀ (tl : List Nat) (s : PS) (i : Nat), s.now = k → s.ended = false → finsL s (tl.map (evOut k)) i = [] ∧ goL s (tl.map (evOut k)) = s
  | [], s, i, _, _ => ⟨rfl, rfl⟩
  | t :: r, s, i, hn, he => by
    have hok : s.ok (evOut k t) = true := by
      by_cases ht : t % 2 = 1
      · have : ¬ ((k : Int) = 0) := by omega
        simp [PS.ok, evOut, ht, hn]; omega
      · simp [PS.ok, evOut, ht, he]
    have hgo : s.go (evOut k t) = s := by simp [PS.go, evOut]
    obtain ⟨h1, h2⟩ := outs_ok k hk r s (i + 1) hn he
    constructor
    · simp only [List.map_cons, finsL, hok, if_true, hgo, h1]
    · simp only [List.map_cons, goL, List.foldl_cons, hgo]; exact h2

theorem blk_ok (tl : List Nat) (m : Nat) (s : PS) (i : Nat) (h : PSm m s) : finsL s (blk tl (m + 1)) i = [] ∧ PSm (m + 1) (goL s (blk tl (m + 1))) := by
  obtain ⟨h1, h2, h3⟩ := h
  have hni : ¬ ((m + 1 : Nat) : Int) ∈ s.fins := by rw [h3]; omega
  have hok : s.ok ⟨4, ((m + 1 : Nat) : Int), 0, 0⟩ = true := by
    have : ¬ ((m + 1 : Nat) : Int) < 1 := by omega
    simp only [PS.ok, if_true, h1, beq_self_eq_true, Bool.true_and, Bool.and_eq_true, Bool.not_eq_true', decide_eq_false_iff_not, this, not_false_eq_true, true_and]
    simpa using hni
  have hgo : s.go ⟨4, ((m + 1 : Nat) : Int), 0, 0⟩ = ⟨((m + 1 : Nat) : Int), ((m + 1 : Nat) : Int) :: s.fins, s.ended⟩ := by simp only [PS.go, hok, if_true]
  obtain ⟨h4, h5⟩ := outs_ok (m + 1) (by omega) tl ⟨((m + 1 : Nat) : Int), ((m + 1 : Nat) : Int) :: s.fins, s.ended⟩ (i + 1) rfl h2
  have hne : ¬ (((m + 1 : Nat) : Int) = 0) := by omega
  constructor
  · simp only [blk, finsL, hok, if_true, hgo, finsL_app, h4, h5, List.nil_append]
    have : PS.ok ⟨((m + 1 : Nat) : Int), ((m + 1 : Nat) : Int) :: s.fins, s.ended⟩ ⟨5, ((m + 1 : Nat) : Int), 0, 0⟩ = true := by simp [PS.ok]; omega
    simp only [this, if_true]
  · have e : goL s (blk tl (m + 1)) = ⟨0, ((m + 1 : Nat) : Int) :: s.fins, s.ended⟩ := by
      show goL (s.go _) _ = _
      rw [hgo, goL_app, h5]
      have : PS.ok ⟨((m + 1 : Nat) : Int), ((m + 1 : Nat) : Int) :: s.fins, s.ended⟩ ⟨5, ((m + 1 : Nat) : Int), 0, 0⟩ = true := by simp [PS.ok]; omega
      show PS.go _ _ = _
      simp only [PS.go, this, if_true]
      simp
    rw [e]
    refine ⟨rfl, h2, fun n => ?_⟩
    simp only [List.mem_cons, h3]
    omega

theorem evl_ok (tl : List Nat) : ∀ (m : Nat), finsL ⟨0, [], false⟩ (evl tl m) 0 = [] ∧ PSm m (goL ⟨0, [], false⟩ (evl tl m))
  | 0 => ⟨rfl, rfl, rfl, fun n => by simp [goL, evl]; omega⟩
  | m + 1 => by
    obtain ⟨h1, h2⟩ := evl_ok tl m
    obtain ⟨h3, h4⟩ := blk_ok tl m _ (0 + (evl tl m).length) h2
    exact ⟨by rw [evl, finsL_app, h1, h3]; rfl, by rw [evl, goL_app]; exact h4⟩

theorem again_zero (tl : List Nat) : finsL ⟨0, [], false⟩ (evl tl 0 ++ [⟨4, 1, 0, 0⟩, ⟨5, 1, 0, 0⟩]) 0 = [] := by
  simp [evl, finsL, PS.ok, PS.go]
theorem again_more (tl : List Nat) {m : Nat} (hm : 1 ≤ m) : finsL ⟨0, [], false⟩ (evl tl m ++ [⟨4, 1, 0, 0⟩, ⟨5, 1, 0, 0⟩]) 0 = [((evl tl m).length : Int), ((evl tl m).length : Int) + 1] := by
  obtain ⟨h1, h2, h3, h4⟩ := evl_ok tl m
  rw [finsL_app, h1]
  have hc : (1 : Int) ∈ (goL ⟨0, [], false⟩ (evl tl m)).fins := by rw [h4]; omega
  simp [finsL, PS.ok, PS.go, h2, hc]

theorem outsL_app (mark : Int) : ∀ (a b : List Ev), outsL mark (a ++ b) = outsL mark a ++ outsL mark b
  | [], b => rfl
  | e :: a, b => by
    simp only [List.cons_append, outsL]
    rw [outsL_app mark a b]
    split <;> rfl
theorem outs_count (k : Nat) (hk : 1 ≤ k) : ∀ (tl : List Nat), (outsL 0 (tl.map (evOut k))).length + oddN tl = tl.length
  | [] => rfl
  | t :: r => by
    have ih := outs_count k hk r
    by_cases ht : t % 2 = 1
    · have : ¬ ((k : Int) = 0) := by omega
      simp only [List.map_cons, outsL, oddN, List.length_cons, evOut, ht, if_true]
      have e : ((1 : Int) == 1 && (k : Int) == 0) = false := by simp; omega
      rw [e]
      simp only [Bool.false_eq_true, if_false]
      have : (outsL 0 (r.map (evOut k))).length + oddN r = r.length := ih
      omega
    · have h0 : t % 2 = 0 := by omega
      simp only [List.map_cons, outsL, oddN, List.length_cons, evOut, h0]
      simp only [show ¬ ((0 : Nat) = 1) by omega, if_false]
      have e : ((1 : Int) == 1 && (0 : Int) == 0) = true := by decide
      rw [e]
      simp only [if_true, List.length_cons]
      omega
theorem evl_outs (tl : List Nat) : ∀ (m : Nat), (outsL 0 (evl tl m)).length + m * oddN tl = m * tl.length
  | 0 => by simp [evl, outsL]
  | m + 1 => by
    have ih := evl_outs tl m
    have h := outs_count (m + 1) (by omega) tl
    have e1 : outsL 0 (blk tl (m + 1)) = outsL 0 (tl.map (evOut (m + 1))) := by
      simp [blk, outsL, outsL_app]
    rw [evl, outsL_app, List.length_append, e1, Nat.succ_mul, Nat.succ_mul]
    omega
theorem evl_len (tl : List Nat) : ∀ (m : Nat), (evl tl m).length = m * (tl.length + 2)
  | 0 => by simp [evl]
  | m + 1 => by
    rw [evl, List.length_append, evl_len tl m, Nat.succ_mul]
    simp [blk]
end Go.Proofs.Ytfnbbbcnbfhclaa

end
section
namespace Go.Proofs.Ytfnbbbcnbfhclaa
open Go.Dx
variable {tbl : Nat → Option CFunc}

theorem rem20 (n : Nat) : arithI .rem 4 (n : Int) 20 = some (.int 4 ((n % 20 : Nat) : Int)) := by
  simp only [arithI]; rw [if_neg (by decide)]; rfl

theorem SlIs_fresh {M M' : Mem} {a : AV} {s : Nat} {L : List (List AV)} (h : SlIs M a s L) (hw : M.wf) (hB : But (fun p => M.next.num ≤ p.num) M M') : SlIs M' a s L := by
  by_cases hL : L = []
  · subst hL; exact ⟨h.1, h.2.1, fun h => absurd rfl h⟩
  · exact h.but hB fun p o n hp => by have := h.lt hw hL hp; omega

/-- The slots while events are laid. -/
def PairS (a o : AV) (m k : Nat) (fr : Tr AV) : Prop :=
  fr.get (.i .h) = some a ∧ fr.get (.i (.i .h)) = some o ∧ fr.get (.o (.o (.o .h))) = some (.int 3 m) ∧ fr.get (.i (.o (.o .h))) = some (.int 3 k)

set_option maxRecDepth 10000 in
theorem pairs_spec {cw : CFunc} (h4 : tbl 4 = some cf4) (h9 : tbl 9 = some cf9) (h12 : tbl 12 = some cf12) (h14 : tbl 14 = some cw) (hcw : cw.konst = some (.bool true)) (h15 : tbl 15 = some cf15) (h16 : tbl 16 = some cf16) (h17 : tbl 17 = some cf17)
    (h22 : tbl 22 = some cf22) (h23 : tbl 23 = some cf23) (h24 : tbl 24 = some cf24) (h25 : tbl 25 = some cf25) (h26 : tbl 26 = some cf26)
    {a : AV} {M : Mem} {n : Nat} {l : List Nat} (ha : SlIs M a 1 (U8L l)) :
    CallW tbl 4 (.cons (.int 4 n) (.cons a .nil)) M fun r _ => r = .ret (.bool true) := by
  refine CallW.wf fun hw => ?_
  have la : slLen a = some l.length := by rw [ha.len]; simp [U8L]
  refine CallW.intro h4 rfl (fr := .nod (.val .leaf (.int 4 n) .leaf) (.val .leaf a .leaf)) rfl ?_
  simp only [go_sem, reduceCtorEq, Nat.reduceEqDiff, Nat.reduceAdd, Nat.reduceMul, Nat.reduceLeDiff, Nat.reduceSub, Nat.reduceLT, Nat.reduceBEq, Nat.reduceBNe, Int.reduceBEq, Int.reduceBNe, Int.reduceLT, Int.reduceLE, Int.reduceAdd, Int.reduceEq, Int.reduceNe, beq_self_eq_true, bne_self_eq_false, decide_true, decide_false, Bool.not_true, Bool.not_false, Bool.false_eq_true, false_and, and_false, not_true_eq_false, not_false_eq_true, cf4]
  refine (CallW.konst h14 hcw ?_ : CallW tbl 14 .nil _ _)
  have hr := rem20 n
  have hm : n % 20 < 20 := Nat.mod_lt _ (by omega)
  generalize n % 20 = m at *
  have e1 : (kindOf 3).wrap (m : Int) = (m : Int) := wrap64 (by omega) (by omega)
  simp only [go_sem, reduceCtorEq, Nat.reduceEqDiff, Nat.reduceAdd, Nat.reduceMul, Nat.reduceLeDiff, Nat.reduceSub, Nat.reduceLT, Nat.reduceBEq, Nat.reduceBNe, Int.reduceBEq, Int.reduceBNe, Int.reduceLT, Int.reduceLE, Int.reduceAdd, Int.reduceEq, Int.reduceNe, beq_self_eq_true, bne_self_eq_false, decide_true, decide_false, Bool.not_true, Bool.not_false, Bool.false_eq_true, false_and, and_false, not_true_eq_false, not_false_eq_true, hr, e1]
  generalize ht : l.take 10 = tl
  have htl : tl.length = Min.min l.length 10 := by rw [← ht]; simp; omega
  have tmax := evl_len tl
  refine loop_wp (I := fun n fr M' => ∃ (k : Nat) (o : AV), k ≤ m ∧ n = m - k ∧ M'.wf ∧ But (fun p => M.next.num ≤ p.num) M M' ∧ OwnSl M' o 3 (EvL (evl tl k)) ∧ (∀ p, ownP o p → M.next.num ≤ p.num) ∧ PairS a o m (k + 1) fr) (n := m) ?_ ?_
  · exact ⟨0, .nilslice, by omega, by omega, hw, But.refl _ _, OwnSl.nil _ _, (fun p hp => by obtain ⟨n, s, e⟩ := hp; cases e), rfl, rfl, rfl, rfl⟩
  · rintro n fr M' ⟨k, o, hk, rfl, hw', hB, hO, hof, f1, f2, f3, f4⟩
    by_cases hkm : k < m
    · have g1 : decide (((k + 1 : Nat) : Int) ≤ (m : Int)) = true := by simp; omega
      have hlk : (evl tl k).length ≤ 300 := by
        rw [tmax]
        have : k * (tl.length + 2) ≤ 20 * (10 + 2) := Nat.mul_le_mul (by omega) (by omega)
        omega
      simp only [go_sem, reduceCtorEq, Nat.reduceEqDiff, Nat.reduceAdd, Nat.reduceMul, Nat.reduceLeDiff, Nat.reduceSub, Nat.reduceLT, Nat.reduceBEq, Nat.reduceBNe, Int.reduceBEq, Int.reduceBNe, Int.reduceLT, Int.reduceLE, Int.reduceAdd, Int.reduceEq, Int.reduceNe, beq_self_eq_true, bne_self_eq_false, decide_true, decide_false, Bool.not_true, Bool.not_false, Bool.false_eq_true, false_and, and_false, not_true_eq_false, not_false_eq_true, f1, f2, f3, f4, g1]
      refine (event_spec h15).use ?_
      rintro r M1 hw1 ⟨rfl, b1⟩
      obtain ⟨v1, M2, p1, hO1, hB1, hw2, hof1⟩ := (hO.old b1 fun _ _ => id).push hw1 (n := 1) (c := 1) (X := [EvR ⟨4, ((k + 1 : Nat) : Int), 0, 0⟩]) (x := EvR ⟨4, ((k + 1 : Nat) : Int), 0, 0⟩) rfl rfl (by simp [EvR]) (by simp [EvR, isCell]) (by simp) (by omega) (by simp [EvL, most]; omega) (evL_cells _)
      simp only [EvR] at p1
      simp only [go_sem, reduceCtorEq, Nat.reduceEqDiff, Nat.reduceAdd, Nat.reduceMul, Nat.reduceLeDiff, Nat.reduceSub, Nat.reduceLT, Nat.reduceBEq, Nat.reduceBNe, Int.reduceBEq, Int.reduceBNe, Int.reduceLT, Int.reduceLE, Int.reduceAdd, Int.reduceEq, Int.reduceNe, beq_self_eq_true, bne_self_eq_false, decide_true, decide_false, Bool.not_true, Bool.not_false, Bool.false_eq_true, false_and, and_false, not_true_eq_false, not_false_eq_true, EvA, f2, p1]
      have hB2 : But (fun p => M.next.num ≤ p.num) M M2 := (hB.trans (b1.mono fun _ h => h.elim)).trans (hB1.mono hof)
      have hof1' : ∀ p, ownP v1 p → M.next.num ≤ p.num := fun p h => by have h1 := hof1 p h; have h2 := hB.next; have h3 := b1.next; omega
      refine loop_wp (I := fun n fr M' => ∃ (i : Nat) (o : AV), i ≤ tl.length ∧ n = tl.length - i ∧ M'.wf ∧ But (fun p => M.next.num ≤ p.num) M M' ∧ OwnSl M' o 3 (EvL (evl tl k ++ (⟨4, ((k + 1 : Nat) : Int), 0, 0⟩ :: (tl.take i).map (evOut (k + 1))))) ∧ (∀ p, ownP o p → M.next.num ≤ p.num) ∧ PairS a o m (k + 1) fr ∧ fr.get (.o (.i (.o .h))) = some (.int 3 i)) (n := tl.length) ?_ ?_
      · refine ⟨0, v1, by omega, by omega, hw2, hB2, ?_, hof1', ?_, ?_⟩
        · simpa [EvL] using hO1
        · simp [PairS, Tr.get_set, f1, f2, f3, f4]
        · simp [Tr.get_set]
      · clear f1 f2 f3 f4 p1 hO1 hB1 hof1 hof1' hB2 hw2 M2 v1
        rintro n fr M2 ⟨i, o, hi, rfl, hw2, hB2, hO2, hof2, ⟨f1, f2, f3, f4⟩, f5⟩
        by_cases hil : i < tl.length
        · have g2 : decide ((i : Int) < (l.length : Int)) = true := by simp; omega
          have g3 : decide ((i : Int) < 10) = true := by simp; omega
          have hil' : i < l.length := by omega
          have ha2 := ha.but hB2 fun p' o' n' h' => by
            have h2 := ha.lt hw (fun e => by have := congrArg List.length e; simp [U8L] at this; rw [this] at hil'; simp at hil') h'
            omega
          obtain ⟨p, po, n, s1, k1, c1⟩ := u8_at ha2 hil'
          have hr2 := rem2 l[i]
          have htake : tl.take (i + 1) = tl.take i ++ [l[i]] := by
            rw [List.take_succ_eq_append_getElem hil]
            congr 2
            subst ht
            rw [List.getElem_take]
          have more : ∀ (x : Int), (if l[i] % 2 = 1 then ((k + 1 : Nat) : Int) else 0) = x → ∀ (r : CR) (M' : Mem), r = .ret (EvA ⟨1, x, 0, 0⟩) ∧ But (fun _ => False) M2 M' → M'.wf → ∃ v3 M3, appO (M'.new (.cells [.int 3 1, .int 3 x, .str 0 0] false)) 3 o (.slice M'.next 0 1 1) = some (v3, M3) ∧ M3.wf ∧ But (fun p => M.next.num ≤ p.num) M M3 ∧ OwnSl M3 v3 3 (EvL (evl tl k ++ (⟨4, ((k + 1 : Nat) : Int), 0, 0⟩ :: (tl.take (i + 1)).map (evOut (k + 1))))) ∧ (∀ p, ownP v3 p → M.next.num ≤ p.num) := by
            rintro x hx r M' ⟨_, b2⟩ hw'
            obtain ⟨v3, M3, p3, hO3, hB3, hw3, hof3⟩ := (hO2.old b2 fun _ _ => id).push hw' (n := 1) (c := 1) (X := [EvR ⟨1, x, 0, 0⟩]) (x := EvR ⟨1, x, 0, 0⟩) rfl rfl (by simp [EvR]) (by simp [EvR, isCell]) (by simp) (by omega) (by simp [EvL, most]; omega) (evL_cells _)
            refine ⟨v3, M3, p3, hw3, (hB2.trans (b2.mono fun _ h => h.elim)).trans (hB3.mono hof2), ?_, fun p h => by have h1 := hof3 p h; have h2 := hB2.next; have h3 := b2.next; omega⟩
            have hx' : evOut (k + 1) l[i] = ⟨1, x, 0, 0⟩ := by unfold evOut; rw [hx]
            rw [htake, List.map_append, List.map_singleton, hx']
            simpa [EvL] using hO3
          by_cases ho : l[i] % 2 = 1
          · have g4 : (((l[i] % 2 : Nat) : Int) == 1) = true := by rw [ho]; rfl
            simp only [go_sem, reduceCtorEq, Nat.reduceEqDiff, Nat.reduceAdd, Nat.reduceMul, Nat.reduceLeDiff, Nat.reduceSub, Nat.reduceLT, Nat.reduceBEq, Nat.reduceBNe, Int.reduceBEq, Int.reduceBNe, Int.reduceLT, Int.reduceLE, Int.reduceAdd, Int.reduceEq, Int.reduceNe, beq_self_eq_true, bne_self_eq_false, decide_true, decide_false, Bool.not_true, Bool.not_false, Bool.false_eq_true, false_and, and_false, not_true_eq_false, not_false_eq_true, f1, f2, f3, f4, f5, la, g2, g3, s1, k1, c1, hr2, g4]
            refine (event_spec h15).use ?_
            intro r M' hw' hh
            obtain ⟨v3, M3, p3, hw3, hB3, hO3, hof3⟩ := more _ (if_pos ho) r M' hh hw'
            obtain ⟨rfl, _⟩ := hh
            simp only [go_sem, reduceCtorEq, Nat.reduceEqDiff, Nat.reduceAdd, Nat.reduceMul, Nat.reduceLeDiff, Nat.reduceSub, Nat.reduceLT, Nat.reduceBEq, Nat.reduceBNe, Int.reduceBEq, Int.reduceBNe, Int.reduceLT, Int.reduceLE, Int.reduceAdd, Int.reduceEq, Int.reduceNe, beq_self_eq_true, bne_self_eq_false, decide_true, decide_false, Bool.not_true, Bool.not_false, Bool.false_eq_true, false_and, and_false, not_true_eq_false, not_false_eq_true, EvA, f1, f2, f3, f4, f5, p3]
            refine ⟨tl.length - (i + 1), by omega, i + 1, v3, by omega, rfl, hw3, hB3, hO3, hof3, ?_, ?_⟩
            · simp [PairS, Tr.get_set, f1, f2, f3, f4]
            · simp [Tr.get_set, wrap_succ (show i < 2 ^ 62 by omega)]
          · have ho0 : l[i] % 2 = 0 := by omega
            have g4 : (((l[i] % 2 : Nat) : Int) == 1) = false := by rw [ho0]; rfl
            simp only [go_sem, reduceCtorEq, Nat.reduceEqDiff, Nat.reduceAdd, Nat.reduceMul, Nat.reduceLeDiff, Nat.reduceSub, Nat.reduceLT, Nat.reduceBEq, Nat.reduceBNe, Int.reduceBEq, Int.reduceBNe, Int.reduceLT, Int.reduceLE, Int.reduceAdd, Int.reduceEq, Int.reduceNe, beq_self_eq_true, bne_self_eq_false, decide_true, decide_false, Bool.not_true, Bool.not_false, Bool.false_eq_true, false_and, and_false, not_true_eq_false, not_false_eq_true, f1, f2, f3, f4, f5, la, g2, g3, s1, k1, c1, hr2, g4]
            refine (event_spec h15).use ?_
            intro r M' hw' hh
            obtain ⟨v3, M3, p3, hw3, hB3, hO3, hof3⟩ := more _ (if_neg ho) r M' hh hw'
            obtain ⟨rfl, _⟩ := hh
            simp only [go_sem, reduceCtorEq, Nat.reduceEqDiff, Nat.reduceAdd, Nat.reduceMul, Nat.reduceLeDiff, Nat.reduceSub, Nat.reduceLT, Nat.reduceBEq, Nat.reduceBNe, Int.reduceBEq, Int.reduceBNe, Int.reduceLT, Int.reduceLE, Int.reduceAdd, Int.reduceEq, Int.reduceNe, beq_self_eq_true, bne_self_eq_false, decide_true, decide_false, Bool.not_true, Bool.not_false, Bool.false_eq_true, false_and, and_false, not_true_eq_false, not_false_eq_true, EvA, f1, f2, f3, f4, f5, p3]
            refine ⟨tl.length - (i + 1), by omega, i + 1, v3, by omega, rfl, hw3, hB3, hO3, hof3, ?_, ?_⟩
            · simp [PairS, Tr.get_set, f1, f2, f3, f4]
            · simp [Tr.get_set, wrap_succ (show i < 2 ^ 62 by omega)]
        · have : i = tl.length := by omega
          subst this
          rw [List.take_length] at hO2
          have close : ∀ (r : CR) (M' : Mem), r = .ret (EvA ⟨5, ((k + 1 : Nat) : Int), 0, 0⟩) ∧ But (fun _ => False) M2 M' → M'.wf → ∃ v3 M3, appO (M'.new (.cells [.int 3 5, .int 3 ((k + 1 : Nat) : Int), .str 0 0] false)) 3 o (.slice M'.next 0 1 1) = some (v3, M3) ∧ M3.wf ∧ But (fun p => M.next.num ≤ p.num) M M3 ∧ OwnSl M3 v3 3 (EvL (evl tl (k + 1))) ∧ (∀ p, ownP v3 p → M.next.num ≤ p.num) := by
            rintro r M' ⟨_, b2⟩ hw'
            obtain ⟨v3, M3, p3, hO3, hB3, hw3, hof3⟩ := (hO2.old b2 fun _ _ => id).push hw' (n := 1) (c := 1) (X := [EvR ⟨5, ((k + 1 : Nat) : Int), 0, 0⟩]) (x := EvR ⟨5, ((k + 1 : Nat) : Int), 0, 0⟩) rfl rfl (by simp [EvR]) (by simp [EvR, isCell]) (by simp) (by omega) (by simp [EvL, most]; omega) (evL_cells _)
            refine ⟨v3, M3, p3, hw3, (hB2.trans (b2.mono fun _ h => h.elim)).trans (hB3.mono hof2), ?_, fun p h => by have h1 := hof3 p h; have h2 := hB2.next; have h3 := b2.next; omega⟩
            simpa [EvL, evl, blk] using hO3
          by_cases hll : tl.length < l.length
          · have g2 : decide ((tl.length : Int) < (l.length : Int)) = true := by simp; omega
            have g3 : decide ((tl.length : Int) < 10) = false := by simp; omega
            simp only [go_sem, reduceCtorEq, Nat.reduceEqDiff, Nat.reduceAdd, Nat.reduceMul, Nat.reduceLeDiff, Nat.reduceSub, Nat.reduceLT, Nat.reduceBEq, Nat.reduceBNe, Int.reduceBEq, Int.reduceBNe, Int.reduceLT, Int.reduceLE, Int.reduceAdd, Int.reduceEq, Int.reduceNe, beq_self_eq_true, bne_self_eq_false, decide_true, decide_false, Bool.not_true, Bool.not_false, Bool.false_eq_true, false_and, and_false, not_true_eq_false, not_false_eq_true, f1, f2, f3, f4, f5, la, g2, g3]
            refine (event_spec h15).use ?_
            intro r M' hw' hh
            obtain ⟨v3, M3, p3, hw3, hB3, hO3, hof3⟩ := close r M' hh hw'
            obtain ⟨rfl, _⟩ := hh
            simp only [go_sem, reduceCtorEq, Nat.reduceEqDiff, Nat.reduceAdd, Nat.reduceMul, Nat.reduceLeDiff, Nat.reduceSub, Nat.reduceLT, Nat.reduceBEq, Nat.reduceBNe, Int.reduceBEq, Int.reduceBNe, Int.reduceLT, Int.reduceLE, Int.reduceAdd, Int.reduceEq, Int.reduceNe, beq_self_eq_true, bne_self_eq_false, decide_true, decide_false, Bool.not_true, Bool.not_false, Bool.false_eq_true, false_and, and_false, not_true_eq_false, not_false_eq_true, EvA, f1, f2, f3, f4, f5, p3]
            refine ⟨m - (k + 1), by omega, k + 1, v3, by omega, rfl, hw3, hB3, hO3, hof3, ?_⟩
            simp only [PairS, Tr.get_set]
            simp [f1, f2, f3, f4]
            exact wrap64 (by omega) (by omega)
          · have g2 : decide ((tl.length : Int) < (l.length : Int)) = false := by simp; omega
            simp only [go_sem, reduceCtorEq, Nat.reduceEqDiff, Nat.reduceAdd, Nat.reduceMul, Nat.reduceLeDiff, Nat.reduceSub, Nat.reduceLT, Nat.reduceBEq, Nat.reduceBNe, Int.reduceBEq, Int.reduceBNe, Int.reduceLT, Int.reduceLE, Int.reduceAdd, Int.reduceEq, Int.reduceNe, beq_self_eq_true, bne_self_eq_false, decide_true, decide_false, Bool.not_true, Bool.not_false, Bool.false_eq_true, false_and, and_false, not_true_eq_false, not_false_eq_true, f1, f2, f3, f4, f5, la, g2]
            refine (event_spec h15).use ?_
            intro r M' hw' hh
            obtain ⟨v3, M3, p3, hw3, hB3, hO3, hof3⟩ := close r M' hh hw'
            obtain ⟨rfl, _⟩ := hh
            simp only [go_sem, reduceCtorEq, Nat.reduceEqDiff, Nat.reduceAdd, Nat.reduceMul, Nat.reduceLeDiff, Nat.reduceSub, Nat.reduceLT, Nat.reduceBEq, Nat.reduceBNe, Int.reduceBEq, Int.reduceBNe, Int.reduceLT, Int.reduceLE, Int.reduceAdd, Int.reduceEq, Int.reduceNe, beq_self_eq_true, bne_self_eq_false, decide_true, decide_false, Bool.not_true, Bool.not_false, Bool.false_eq_true, false_and, and_false, not_true_eq_false, not_false_eq_true, EvA, f1, f2, f3, f4, f5, p3]
            refine ⟨m - (k + 1), by omega, k + 1, v3, by omega, rfl, hw3, hB3, hO3, hof3, ?_⟩
            simp only [PairS, Tr.get_set]
            simp [f1, f2, f3, f4]
            exact wrap64 (by omega) (by omega)
    · have : k = m := by omega
      subst this
      have g1 : decide (((k + 1 : Nat) : Int) ≤ (k : Int)) = false := by simp; omega
      have hlk : (evl tl k).length ≤ 300 := by
        rw [tmax]
        have : k * (tl.length + 2) ≤ 20 * (10 + 2) := Nat.mul_le_mul (by omega) (by omega)
        omega
      simp only [go_sem, reduceCtorEq, Nat.reduceEqDiff, Nat.reduceAdd, Nat.reduceMul, Nat.reduceLeDiff, Nat.reduceSub, Nat.reduceLT, Nat.reduceBEq, Nat.reduceBNe, Int.reduceBEq, Int.reduceBNe, Int.reduceLT, Int.reduceLE, Int.reduceAdd, Int.reduceEq, Int.reduceNe, beq_self_eq_true, bne_self_eq_false, decide_true, decide_false, Bool.not_true, Bool.not_false, Bool.false_eq_true, false_and, and_false, not_true_eq_false, not_false_eq_true, f1, f2, f3, f4, g1]
      refine (fins_spec h9 h22 h23 h24 hO.rows (by omega)).use ?_
      rintro r M1 hw1 ⟨v1, rfl, o1, b1⟩
      rw [(evl_ok tl k).1] at o1
      have l1 : slLen v1 = some 0 := o1.rows.len
      have hO1 := hO.old b1 fun _ _ => id
      have hB1 := hB.trans (b1.mono fun _ h => h.elim)
      have lo : slLen o = some (evl tl k).length := by rw [hO1.rows.len]; simp [EvL]
      -- the two events more
      have again : ∀ (M2 : Mem), M2.wf → OwnSl M2 o 3 (EvL (evl tl k)) → ∃ v3 M3, appO (M2.new (.cells [.int 3 4, .int 3 1, .str 0 0, .int 3 5, .int 3 1, .str 0 0] false)) 3 o (.slice M2.next 0 2 2) = some (v3, M3) ∧ M3.wf ∧ OwnSl M3 v3 3 (EvL (evl tl k ++ [⟨4, 1, 0, 0⟩, ⟨5, 1, 0, 0⟩])) := by
        intro M2 hw2 h2
        obtain ⟨v3, M3, p3, hO3, hB3, hw3, hof3⟩ := h2.push hw2 (n := 2) (c := 2) (X := [EvR ⟨4, 1, 0, 0⟩, EvR ⟨5, 1, 0, 0⟩]) (x := [.int 3 4, .int 3 1, .str 0 0, .int 3 5, .int 3 1, .str 0 0]) rfl rfl (by simp [EvR]) (by simp [EvR, isCell]) (by simp) (by omega) (by simp [EvL, most]; omega) (evL_cells _)
        exact ⟨v3, M3, p3, hw3, by simpa [EvL] using hO3⟩
      by_cases hk0 : k = 0
      · subst hk0
        simp only [go_sem, reduceCtorEq, Nat.reduceEqDiff, Nat.reduceAdd, Nat.reduceMul, Nat.reduceLeDiff, Nat.reduceSub, Nat.reduceLT, Nat.reduceBEq, Nat.reduceBNe, Int.reduceBEq, Int.reduceBNe, Int.reduceLT, Int.reduceLE, Int.reduceAdd, Int.reduceEq, Int.reduceNe, beq_self_eq_true, bne_self_eq_false, decide_true, decide_false, Bool.not_true, Bool.not_false, Bool.false_eq_true, false_and, and_false, not_true_eq_false, not_false_eq_true, f1, f2, f3, f4, l1, Int.lt_irrefl]
        refine (event_spec h15).use ?_
        rintro r2 M2 hw2 ⟨rfl, b2⟩
        simp only [go_sem, reduceCtorEq, Nat.reduceEqDiff, Nat.reduceAdd, Nat.reduceMul, Nat.reduceLeDiff, Nat.reduceSub, Nat.reduceLT, Nat.reduceBEq, Nat.reduceBNe, Int.reduceBEq, Int.reduceBNe, Int.reduceLT, Int.reduceLE, Int.reduceAdd, Int.reduceEq, Int.reduceNe, beq_self_eq_true, bne_self_eq_false, decide_true, decide_false, Bool.not_true, Bool.not_false, Bool.false_eq_true, false_and, and_false, not_true_eq_false, not_false_eq_true]
        refine (event_spec h15).use ?_
        rintro r3 M3 hw3 ⟨rfl, b3⟩
        obtain ⟨v4, M4, p4, hw4, hO4⟩ := again M3 hw3 ((hO1.old b2 fun _ _ => id).old b3 fun _ _ => id)
        simp only [go_sem, reduceCtorEq, Nat.reduceEqDiff, Nat.reduceAdd, Nat.reduceMul, Nat.reduceLeDiff, Nat.reduceSub, Nat.reduceLT, Nat.reduceBEq, Nat.reduceBNe, Int.reduceBEq, Int.reduceBNe, Int.reduceLT, Int.reduceLE, Int.reduceAdd, Int.reduceEq, Int.reduceNe, beq_self_eq_true, bne_self_eq_false, decide_true, decide_false, Bool.not_true, Bool.not_false, Bool.false_eq_true, false_and, and_false, not_true_eq_false, not_false_eq_true, EvA, f2, p4, f3]
        refine (fins_spec h9 h22 h23 h24 hO4.rows (by simp [evl])).use ?_
        rintro r5 M5 hw5 ⟨v5, rfl, o5, b5⟩
        rw [again_zero] at o5
        have l5 : slLen v5 = some 0 := o5.rows.len
        simp only [go_sem, reduceCtorEq, Nat.reduceEqDiff, Nat.reduceAdd, Nat.reduceMul, Nat.reduceLeDiff, Nat.reduceSub, Nat.reduceLT, Nat.reduceBEq, Nat.reduceBNe, Int.reduceBEq, Int.reduceBNe, Int.reduceLT, Int.reduceLE, Int.reduceAdd, Int.reduceEq, Int.reduceNe, beq_self_eq_true, bne_self_eq_false, decide_true, decide_false, Bool.not_true, Bool.not_false, Bool.false_eq_true, false_and, and_false, not_true_eq_false, not_false_eq_true, l5]
      · have g2 : decide ((0 : Int) < (k : Int)) = true := by simp; omega
        simp only [go_sem, reduceCtorEq, Nat.reduceEqDiff, Nat.reduceAdd, Nat.reduceMul, Nat.reduceLeDiff, Nat.reduceSub, Nat.reduceLT, Nat.reduceBEq, Nat.reduceBNe, Int.reduceBEq, Int.reduceBNe, Int.reduceLT, Int.reduceLE, Int.reduceAdd, Int.reduceEq, Int.reduceNe, beq_self_eq_true, bne_self_eq_false, decide_true, decide_false, Bool.not_true, Bool.not_false, Bool.false_eq_true, false_and, and_false, not_true_eq_false, not_false_eq_true, f1, f2, f3, f4, l1, g2]
        refine (outs_spec h12 h25 h26 hO1.rows (by omega)).use ?_
        rintro r M2 hw2 ⟨v2, rfl, o2, b2⟩
        have hO2 := hO1.old b2 fun _ _ => id
        have hB2 := hB1.trans (b2.mono fun _ h => h.elim)
        have l2 : slLen v2 = some (outsL 0 (evl tl k)).length := by rw [o2.rows.len]; simp [StrL]
        simp only [go_sem, reduceCtorEq, Nat.reduceEqDiff, Nat.reduceAdd, Nat.reduceMul, Nat.reduceLeDiff, Nat.reduceSub, Nat.reduceLT, Nat.reduceBEq, Nat.reduceBNe, Int.reduceBEq, Int.reduceBNe, Int.reduceLT, Int.reduceLE, Int.reduceAdd, Int.reduceEq, Int.reduceNe, beq_self_eq_true, bne_self_eq_false, decide_true, decide_false, Bool.not_true, Bool.not_false, Bool.false_eq_true, false_and, and_false, not_true_eq_false, not_false_eq_true, f1, f2, f3, f4, l2]
        refine (odd_spec h16 (SlIs_fresh ha hw hB2)).use ?_
        rintro r M3 _ ⟨rfl, rfl⟩
        rw [ht]
        have hodd := oddN_le tl
        have hmul : k * oddN tl ≤ 20 * 10 := Nat.mul_le_mul (by omega) (by omega)
        have hmul2 : k * tl.length ≤ 20 * 10 := Nat.mul_le_mul (by omega) (by omega)
        have hcnt := evl_outs tl k
        have c1 : IntKind.i64.wrap ((k : Int) * ((oddN tl : Nat) : Int)) = ((k * oddN tl : Nat) : Int) := by rw [← Int.natCast_mul]; exact wrap64 (by omega) (by omega)
        have c2 : IntKind.i64.wrap (((outsL 0 (evl tl k)).length : Int) + ((k * oddN tl : Nat) : Int)) = ((k * tl.length : Nat) : Int) := by rw [← Int.natCast_add, hcnt]; exact wrap64 (by omega) (by omega)
        have c3 : (if 10 < (l.length : Int) then 10 else (l.length : Int)) = (tl.length : Int) := by split <;> omega
        have c4 : IntKind.i64.wrap ((k : Int) * (tl.length : Int)) = ((k * tl.length : Nat) : Int) := by rw [← Int.natCast_mul]; exact wrap64 (by omega) (by omega)
        have hk0' : (((k : Nat) : Int) == 0) = false := by simp; omega
        simp only [go_sem, reduceCtorEq, Nat.reduceEqDiff, Nat.reduceAdd, Nat.reduceMul, Nat.reduceLeDiff, Nat.reduceSub, Nat.reduceLT, Nat.reduceBEq, Nat.reduceBNe, Int.reduceBEq, Int.reduceBNe, Int.reduceLT, Int.reduceLE, Int.reduceAdd, Int.reduceEq, Int.reduceNe, beq_self_eq_true, bne_self_eq_false, decide_true, decide_false, Bool.not_true, Bool.not_false, Bool.false_eq_true, false_and, and_false, not_true_eq_false, not_false_eq_true, f1, f2, f3, f4, la, c1, c2, c3, c4]
        refine (event_spec h15).use ?_
        rintro r4 M4 hw4 ⟨rfl, b4⟩
        simp only [go_sem, reduceCtorEq, Nat.reduceEqDiff, Nat.reduceAdd, Nat.reduceMul, Nat.reduceLeDiff, Nat.reduceSub, Nat.reduceLT, Nat.reduceBEq, Nat.reduceBNe, Int.reduceBEq, Int.reduceBNe, Int.reduceLT, Int.reduceLE, Int.reduceAdd, Int.reduceEq, Int.reduceNe, beq_self_eq_true, bne_self_eq_false, decide_true, decide_false, Bool.not_true, Bool.not_false, Bool.false_eq_true, false_and, and_false, not_true_eq_false, not_false_eq_true]
        refine (event_spec h15).use ?_
        rintro r5 M5 hw5 ⟨rfl, b5⟩
        obtain ⟨v6, M6, p6, hw6, hO6⟩ := again M5 hw5 ((hO2.old b4 fun _ _ => id).old b5 fun _ _ => id)
        simp only [go_sem, reduceCtorEq, Nat.reduceEqDiff, Nat.reduceAdd, Nat.reduceMul, Nat.reduceLeDiff, Nat.reduceSub, Nat.reduceLT, Nat.reduceBEq, Nat.reduceBNe, Int.reduceBEq, Int.reduceBNe, Int.reduceLT, Int.reduceLE, Int.reduceAdd, Int.reduceEq, Int.reduceNe, beq_self_eq_true, bne_self_eq_false, decide_true, decide_false, Bool.not_true, Bool.not_false, Bool.false_eq_true, false_and, and_false, not_true_eq_false, not_false_eq_true, EvA, f2, p6, f3, hk0']
        refine (fins_spec h9 h22 h23 h24 hO6.rows (by simp; omega)).use ?_
        rintro r7 M7 hw7 ⟨v7, rfl, o7, b7⟩
        rw [again_more tl (by omega)] at o7
        have c5 : IntKind.i64.wrap (((evl tl k).length : Int) + 1) = ((evl tl k).length : Int) + 1 := wrap64 (by omega) (by omega)
        simp only [go_sem, reduceCtorEq, Nat.reduceEqDiff, Nat.reduceAdd, Nat.reduceMul, Nat.reduceLeDiff, Nat.reduceSub, Nat.reduceLT, Nat.reduceBEq, Nat.reduceBNe, Int.reduceBEq, Int.reduceBNe, Int.reduceLT, Int.reduceLE, Int.reduceAdd, Int.reduceEq, Int.reduceNe, beq_self_eq_true, bne_self_eq_false, decide_true, decide_false, Bool.not_true, Bool.not_false, Bool.false_eq_true, false_and, and_false, not_true_eq_false, not_false_eq_true, f2, lo, c5]
        have b8 := But.new (S := fun _ => False) hw7 (.cells [.int 3 (evl tl k).length, .int 3 ((evl tl k).length + 1)] false)
        refine (intsV_spec h17 (o7.old b8 fun _ _ => id).rows (m := [((evl tl k).length : Int), ((evl tl k).length : Int) + 1]) ?_ (by simp)).use ?_
        · exact SlIs.made (x := [.int 3 (evl tl k).length, .int 3 ((evl tl k).length + 1)]) (op := false) (by simp [Mem.new]) rfl (by simp [IntL]) rfl
        rintro r9 M9 _ ⟨rfl, rfl⟩
        simp only [go_sem, reduceCtorEq, Nat.reduceEqDiff, Nat.reduceAdd, Nat.reduceMul, Nat.reduceLeDiff, Nat.reduceSub, Nat.reduceLT, Nat.reduceBEq, Nat.reduceBNe, Int.reduceBEq, Int.reduceBNe, Int.reduceLT, Int.reduceLE, Int.reduceAdd, Int.reduceEq, Int.reduceNe, beq_self_eq_true, bne_self_eq_false, decide_true, decide_false, Bool.not_true, Bool.not_false, Bool.false_eq_true, false_and, and_false, not_true_eq_false, not_false_eq_true]
end Go.Proofs.Ytfnbbbcnbfhclaa

end
section
namespace Go.Proofs.Ytfnbbbcnbfhclaa
open Go.Dx
variable {tbl : Nat → Option CFunc}

theorem bytes_of : ∀ {xs : List (List AV)}, (∀ x ∈ xs, okRow [.i .u8] x) → ∃ l : List Nat, xs = U8L l
  | [], _ => ⟨[], rfl⟩
  | x :: r, h => by
    obtain ⟨l, rfl⟩ := bytes_of (xs := r) fun y hy => h y (List.mem_cons_of_mem _ hy)
    have hx := h x List.mem_cons_self
    rcases x with _ | ⟨a, _ | ⟨b, t⟩⟩
    · exact hx.elim
    · obtain ⟨⟨k, rfl, hk⟩, _⟩ := hx
      have h0 : 0 ≤ k := by
        simp only [Lit.wf, IntKind.min, IntKind.signed, Bool.and_eq_true, decide_eq_true_eq] at hk
        simpa using hk.1
      exact ⟨k.toNat :: l, by simp [U8L, codeOf, Int.toNat_of_nonneg h0]⟩
    · exact hx.2.elim

theorem pairs_arg {cw : CFunc} (h4 : tbl 4 = some cf4) (h9 : tbl 9 = some cf9) (h12 : tbl 12 = some cf12) (h14 : tbl 14 = some cw) (hcw : cw.konst = some (.bool true)) (h15 : tbl 15 = some cf15) (h16 : tbl 16 = some cf16) (h17 : tbl 17 = some cf17)
    (h22 : tbl 22 = some cf22) (h23 : tbl 23 = some cf23) (h24 : tbl 24 = some cf24) (h25 : tbl 25 = some cf25) (h26 : tbl 26 = some cf26)
    {W : World} {v : Value} {sv : AV} {len : Nat} {xs : List (List AV)} {n : Int} (hn : (Lit.int .u8 n).wf = true) (h : ArgSl [.i .u8] W v sv len xs) :
    CallW tbl 4 (.cons (.int 4 n) (.cons sv .nil)) (argM (argO sv xs)) fun r _ => r = .ret (.bool true) := by
  obtain ⟨l, rfl⟩ := bytes_of h.okRows
  have h0 : 0 ≤ n := by
    simp only [Lit.wf, IntKind.min, IntKind.signed, Bool.and_eq_true, decide_eq_true_eq] at hn
    simpa using hn.1
  obtain ⟨m, rfl⟩ := Int.eq_ofNat_of_zero_le h0
  have hr := h.rows
  refine pairs_spec (l := l.take len) h4 h9 h12 h14 hcw h15 h16 h17 h22 h23 h24 h25 h26 ?_
  simpa [U8L, List.map_take] using hr
end Go.Proofs.Ytfnbbbcnbfhclaa

end
