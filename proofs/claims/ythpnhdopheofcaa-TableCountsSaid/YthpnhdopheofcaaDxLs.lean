import Derived.Test.YthpnhdopheofcaaDxLr
import Derived.Test.YthpnhdopheofcaaDxTrace
set_option linter.unusedSimpArgs false
set_option linter.unusedVariables false
namespace Go.Dx
section
variable {tbl : Nat → Option CFunc}
theorem inst_ok {ci : CI} {ls : AV} {fr : Tr AV} {M : Mem} {k kp : AV → Mem → Prop} (h : instW tbl ci ls fr M k kp) {H : Heap} (hs : Sees H M) :
  ∃ n r H' M', (∀ yld, CI.run (callN tbl n) yld ls fr H ci = some (r, H')) ∧ Sees H' M' ∧ retK k kp r M' := by
 have plain : ∀ ci, ci.isCall = false → (∀ x, ci ≠ .panic x) → ci.wp ls fr M k → ∃ n r H' M', (∀ yld, CI.run (callN tbl n) yld ls fr H ci = some (r, H')) ∧ Sees H' M' ∧ retK k kp r M' := by
  intro ci hc hp hw
  obtain ⟨v, H', M', h1, h2, h3⟩ := wp_does ci hw H hs
  refine ⟨0, .ret v, H', M', fun yld => ?_, h2, h3⟩
  unfold CI.run
  split
  ·cases hc
  ·cases hc
  ·exact absurd rfl (hp _)
  ·cases h1
  ·simp [h1]
 cases ci with
 | callF f args =>
  obtain ⟨as, h1, h2⟩ := opsW_out h
  obtain ⟨n, r, H', M', h3, h4, h5⟩ := h2 H hs
  exact ⟨n, r, H', M', fun yld => by simp [CI.run, callee, h1, h3], h4, h5⟩
 | callV g args =>
  obtain ⟨gv, h1, h2⟩ := opW_out h
  unfold calleeW at h2
  split at h2
  ·obtain ⟨as, h3, h4⟩ := opsW_out h2
   obtain ⟨n, r, H', M', h5, h6, h7⟩ := h4 H hs
   exact ⟨n, r, H', M', fun yld => by simp [CI.run, callee, h1, h3, h5], h6, h7⟩
  ·exact h2.elim
 | panic x =>
  obtain ⟨v, h1, h2⟩ := opW_out h
  cases v with
  | iface t u => exact ⟨0, .pan (.iface t u), H, M, fun yld => by simp [CI.run, h1], hs, h2⟩
  | _ => exact h2.elim
 | defer f x => exact h.elim
 | _ => exact plain _ rfl (fun x e => by cases e) h
theorem guardW_out {ls : AV} {g : Option (Nat × Bool)} {skip go : Prop} (h : guardW ls g skip go) : (wanted ls g = some true ∧ go) ∨ (wanted ls g = some false ∧ skip) := by
 unfold guardW at h
 cases g with
 | none => exact .inl ⟨rfl, h⟩
 | some p =>
  obtain ⟨j, b⟩ := p
  simp only at h
  split at h
  ·rename_i c hc
   by_cases e : c = b
   ·exact .inl ⟨by simp [wanted, hc, e], h.1 e⟩
   ·refine .inr ⟨?_, h.2 e⟩
    simp only [wanted, hc]
    cases c <;> cases b <;> simp_all
  ·rename_i hc; exact .inr ⟨by simp [wanted, hc], h⟩
  ·exact h.elim
def ROK (Q : Ex → Tr AV → Mem → Prop) (M : Mem) : RO → Prop
 | .ok _ fr H => Sees H M ∧ Q .normal fr M
 | .pan v fr H => Sees H M ∧ Q (.pan v) fr M
theorem CIs.ok : ∀ {cs : CIs} {ls : AV} {fr : Tr AV} {M : Mem} {Q : Ex → Tr AV → Mem → Prop}, CIs.wp tbl cs ls fr M Q → ∀ {H : Heap}, Sees H M →
  ∃ n ro M', CIs.run (callN tbl n) (yldN tbl n) cs ls fr H = some ro ∧ ROK Q M' ro := by
 intro cs
 induction cs with
 | nil => intro ls fr M Q h H hs; exact ⟨0, _, M, rfl, hs, h⟩
 | cons g ci dst r ih =>
  intro ls fr M Q h H hs
  simp only [CIs.wp] at h
  rcases guardW_out h with ⟨hg, h⟩ | ⟨hg, h⟩
  ·obtain ⟨n, cr, H1, M1, h1, h2, h3⟩ := inst_ok h hs
   cases cr with
   | ret v =>
    obtain ⟨n2, ro, M2, h4, h5⟩ := ih h3 h2
    refine ⟨max n n2, ro, M2, ?_, h5⟩
    simp only [CIs.run, hg]
    rw [CI.run_le (callN_le (Nat.le_max_left n n2)) (yldN_le (Nat.le_max_left n n2)) (h1 _)]
    exact CIs.run_le (callN_le (Nat.le_max_right n n2)) (yldN_le (Nat.le_max_right n n2)) h4
   | pan v => exact ⟨n, .pan v fr H1, M1, by simp only [CIs.run, hg, h1 _], h2, h3⟩
  ·obtain ⟨n, ro, M2, h4, h5⟩ := ih h hs
   exact ⟨n, ro, M2, by simp only [CIs.run, hg]; exact h4, h5⟩
inductive SeesL : List Heap → List Mem → Prop where
 | nil : SeesL [] []
 | cons {H M Hs Ms} : Sees H M → SeesL Hs Ms → SeesL (H :: Hs) (M :: Ms)
theorem SeesL.length {Hs : List Heap} {Ms : List Mem} (h : SeesL Hs Ms) : Hs.length = Ms.length := by
 induction h with
 | nil => rfl
 | cons _ _ ih => simp [ih]
theorem back_ok {ci : CI} {ls : AV} {fr : Tr AV} {v : AV} : ∀ {n : Nat} {Hs : List Heap} {Ms : List Mem}, SeesL Hs Ms → backW ci ls fr v n Ms → backs ci ls fr v n Hs = true := by
 intro n
 induction n with
 | zero => intro Hs Ms _ _; rfl
 | succ n ih =>
  intro Hs Ms hl h
  cases hl with
  | nil => exact h.elim
  | cons hs hr =>
   obtain ⟨h1, h2⟩ := h
   obtain ⟨u, H', M', h3, _, h4⟩ := wp_does ci h1 _ hs
   simp only [backs, h3, h4, ih hr h2, Bool.and_self]
theorem SeesL.putAll {p : Pos} {o : AO} {b : MB} (hr : BRel o b) : ∀ {Hs : List Heap} {Ms : List Mem}, SeesL Hs Ms → (∀ M ∈ Ms, p.num < M.next.num) → SeesL (putAll p o Hs) (Ms.map fun M => M.put p b) := by
 intro Hs Ms h
 induction h with
 | nil => intro _; exact .nil
 | cons hs _ ih => intro hp; exact .cons (hs.put (hp _ (by simp)) hr) (ih fun M hM => hp M (by simp [hM]))
theorem DIs.ok : ∀ {ds : DIs} {R : List Pos} {Ms : List Mem} {ls : AV} {fr : Tr AV} {M : Mem} {Q : Ex → Tr AV → Mem → Prop}, DIs.wp tbl ds R Ms ls fr M Q → ∀ {Hs : List Heap} {H : Heap}, SeesL Hs Ms → Sees H M →
  ∃ n fr' H' M', DIs.run (callN tbl n) ds R Hs ls fr H = some (fr', H') ∧ Sees H' M' ∧ Q .normal fr' M' := by
 intro ds
 induction ds with
 | nil => intro R Ms ls fr M Q h Hs H _ hs; exact ⟨0, fr, H, M, rfl, hs, h⟩
 | cons g ci dst k r ih =>
  intro R Ms ls fr M Q h Hs H hl hs
  cases k with
  | heavy =>
   simp only [DIs.wp] at h
   rcases guardW_out h with ⟨hg, h⟩ | ⟨hg, h⟩
   ·obtain ⟨n, cr, H1, M1, h1, h2, h3⟩ := inst_ok h hs
    cases cr with
    | ret v =>
     obtain ⟨n2, fr', H', M2, h4, h5, h6⟩ := ih h3 (.cons hs hl) h2
     refine ⟨max n n2, fr', H', M2, ?_, h5, h6⟩
     simp only [DIs.run, hg]
     rw [CI.run_le (callN_le (Nat.le_max_left n n2)) (fun _ _ _ _ h => h) (h1 noY)]
     exact DIs.run_le (callN_le (Nat.le_max_right n n2)) h4
    | pan v => exact h3.elim
   ·obtain ⟨n, fr', H', M2, h4, h5, h6⟩ := ih h (.cons hs hl) hs
    exact ⟨n, fr', H', M2, by simp only [DIs.run, hg]; exact h4, h5, h6⟩
  | light bk =>
   simp only [DIs.wp] at h
   rcases guardW_out h with ⟨hg, h⟩ | ⟨hg, h⟩
   ·obtain ⟨v, H1, M1, h1, _, h2, h3⟩ := wp_does ci h H hs
    obtain ⟨n, fr', H', M2, h4, h5, h6⟩ := ih h3 hl hs
    refine ⟨n, fr', H', M2, ?_, h5, h6⟩
    simp only [DIs.run, hg, h1]
    rw [if_pos]
    ·exact h4
    ·split at h2
     ·rename_i hf; exact back_free hf h1 (by rw [hl.length]; exact h2)
     ·exact back_ok hl h2
   ·obtain ⟨n, fr', H', M2, h4, h5, h6⟩ := ih h hl hs
    exact ⟨n, fr', H', M2, by simp only [DIs.run, hg]; exact h4, h5, h6⟩
  | float =>
   simp only [DIs.wp] at h
   rcases guardW_out h with ⟨hg, h⟩ | ⟨hg, h⟩
   ·unfold floatW at h
    cases R with
    | nil => exact h.elim
    | cons p R =>
     obtain ⟨hp, hps, h⟩ := h
     have h0 : Sees ⟨p, .leaf⟩ ⟨p, fun _ => none⟩ := ⟨rfl, fun q b hq => by cases hq⟩
     obtain ⟨v, F, MF, h1, h2, h3⟩ := wp_does ci h _ h0
     obtain ⟨b, h4, h5⟩ := someW_out h3
     obtain ⟨_, o, h6, h7⟩ := h2.at_ _ _ h4
     obtain ⟨n, fr', H', M2, h8, h9, h10⟩ := ih h5 (hl.putAll h7 hps) (hs.put hp h7)
     refine ⟨n, fr', H', M2, ?_, h9, h10⟩
     simp only [DIs.run, hg, h1, h6]
     exact h8
   ·obtain ⟨n, fr', H', M2, h4, h5, h6⟩ := ih h hl hs
    exact ⟨n, fr', H', M2, by simp only [DIs.run, hg]; exact h4, h5, h6⟩
theorem Sees.reserve : ∀ {n : Nat} {H : Heap} {M : Mem}, Sees H M → (Dx.reserve n H).1 = (Mem.reserve n M).1 ∧ Sees (Dx.reserve n H).2 (Mem.reserve n M).2 := by
 intro n
 induction n with
 | zero => intro H M h; exact ⟨rfl, h⟩
 | succ n ih =>
  intro H M h
  have h' : Sees ⟨H.next.succ, H.t⟩ ⟨M.next.succ, M.get⟩ := ⟨by show H.next.succ = M.next.succ; rw [h.next], fun p b hp => by
   have := h.at_ p b hp
   exact ⟨by show p.num < M.next.succ.num; rw [Pos.num_succ]; omega, this.2⟩⟩
  obtain ⟨h1, h2⟩ := ih h'
  exact ⟨by simp only [Dx.reserve, Mem.reserve]; rw [h1, h.next], h2⟩
end
section
variable (tbl : Nat → Option CFunc)
def LoopW (body : Tr AV → Mem → (Ex → Tr AV → Mem → Prop) → Prop) (fr : Tr AV) (M : Mem) (Q : Ex → Tr AV → Mem → Prop) : Prop :=
 ∃ I : Nat → Tr AV → Mem → Prop, (∃ n, I n fr M) ∧ ∀ n fr M, I n fr M → body fr M fun e fr' M' => match e with
  | .normal => ∃ m, m < n ∧ I m fr' M'
  | e => Q e fr' M'
def CCode.wp : CCode → Tr AV → Mem → (Ex → Tr AV → Mem → Prop) → Prop
 | .skip, fr, M, Q => Q .normal fr M
 | .region cs, fr, M, Q => CIs.wp tbl cs .nil fr M Q
 | .draw ds nf, fr, M, Q => DIs.wp tbl ds (Mem.reserve nf M).1 [] .nil fr (Mem.reserve nf M).2 Q
 | .seq a b, fr, M, Q => a.wp fr M fun e fr' M' => match e with
  | .normal => b.wp fr' M' Q
  | e => Q e fr' M'
 | .cond c a b, fr, M, Q => opW .nil fr c fun v => boolW v fun v => (v = true → a.wp fr M Q) ∧ (v = false → b.wp fr M Q)
 | .block id c, fr, M, Q => c.wp fr M fun e fr' M' => Q (atBlock id e) fr' M'
 | .loop c, fr, M, Q => LoopW (fun fr M Q => c.wp fr M Q) fr M Q
 | .exit id, fr, M, Q => Q (.exit id) fr M
 | .scope rest _, fr, M, Q => rest.wp fr M fun e fr' M' => match e with
  | .goto _ => False
  | e => Q e fr' M'
 | .label _, fr, M, Q => Q .normal fr M
 | .goto l, fr, M, Q => Q (.goto l) fr M
 | .ret, fr, M, Q => Q .ret fr M
 | .rangeFunc .., _, _, _ => False
end
section
variable {tbl : Nat → Option CFunc}
theorem CCode.ok : ∀ {c : CCode} {fr : Tr AV} {M : Mem} {Q : Ex → Tr AV → Mem → Prop}, c.wp tbl fr M Q → ExecW tbl c fr M Q := by
 intro c
 induction c with
 | rangeFunc => intro fr M Q h; exact h.elim
 | skip => intro fr M Q h H hs; exact ⟨1, _, _, _, M, rfl, hs, h⟩
 | region cs =>
  intro fr M Q h H hs
  obtain ⟨n, ro, M', h1, h2⟩ := CIs.ok h hs
  cases ro with
  | ok ls fr' H' => exact ⟨n + 1, .normal, fr', H', M', by show stepC tbl (run tbl n) (.region cs) fr H = _; simp only [stepC]; rw [show doCall tbl (run tbl n) = callN tbl n from rfl, show doYield (run tbl n) = yldN tbl n from rfl, h1], h2.1, h2.2⟩
  | pan v fr' H' => exact ⟨n + 1, .pan v, fr', H', M', by show stepC tbl (run tbl n) (.region cs) fr H = _; simp only [stepC]; rw [show doCall tbl (run tbl n) = callN tbl n from rfl, show doYield (run tbl n) = yldN tbl n from rfl, h1], h2.1, h2.2⟩
 | draw ds nf =>
  intro fr M Q h H hs
  obtain ⟨e1, e2⟩ := hs.reserve (n := nf)
  obtain ⟨n, fr', H', M', h1, h2, h3⟩ := DIs.ok h .nil e2
  exact ⟨n + 1, .normal, fr', H', M', by show stepC tbl (run tbl n) (.draw ds nf) fr H = _; simp only [stepC]; rw [e1, show doCall tbl (run tbl n) = callN tbl n from rfl, h1], h2, h3⟩
 | seq a b iha ihb =>
  intro fr M Q h H hs
  obtain ⟨n, e, fr1, H1, M1, h1, h2, h3⟩ := iha h H hs
  cases e with
  | normal =>
   obtain ⟨m, e, fr2, H2, M2, h4, h5, h6⟩ := ihb h3 H1 h2
   refine ⟨max n m + 1, e, fr2, H2, M2, ?_, h5, h6⟩
   show stepC tbl (run tbl (max n m)) (.seq a b) fr H = _
   simp only [stepC]
   rw [run_le (Nat.le_max_left n m) _ _ _ _ h1]
   exact run_le (Nat.le_max_right n m) _ _ _ _ h4
  | _ => exact ⟨n + 1, _, fr1, H1, M1, by show stepC tbl (run tbl n) (.seq a b) fr H = _; simp only [stepC]; rw [h1], h2, h3⟩
 | cond c a b iha ihb =>
  intro fr M Q h H hs
  simp only [CCode.wp] at h
  obtain ⟨v, h1, h2⟩ := opW_out h
  obtain ⟨v, rfl, h3, h4⟩ := boolW_out h2
  cases v with
  | true =>
   obtain ⟨n, e, fr1, H1, M1, h5, h6, h7⟩ := iha (h3 rfl) H hs
   exact ⟨n + 1, e, fr1, H1, M1, by show stepC tbl (run tbl n) (.cond c a b) fr H = _; simp only [stepC, condV, h1]; exact h5, h6, h7⟩
  | false =>
   obtain ⟨n, e, fr1, H1, M1, h5, h6, h7⟩ := ihb (h4 rfl) H hs
   exact ⟨n + 1, e, fr1, H1, M1, by show stepC tbl (run tbl n) (.cond c a b) fr H = _; simp only [stepC, condV, h1]; exact h5, h6, h7⟩
 | block id c ih =>
  intro fr M Q h H hs
  obtain ⟨n, e, fr1, H1, M1, h1, h2, h3⟩ := ih h H hs
  exact ⟨n + 1, atBlock id e, fr1, H1, M1, by show stepC tbl (run tbl n) (.block id c) fr H = _; simp only [stepC, h1], h2, h3⟩
 | loop c ih =>
  intro fr M Q h
  obtain ⟨I, ⟨n0, hI⟩, hb⟩ := h
  suffices key : ∀ n, ∀ m, m ≤ n → ∀ fr M, I m fr M → ExecW tbl (.loop c) fr M Q from key n0 n0 (Nat.le_refl _) fr M hI
  intro n
  induction n with
  | zero =>
   intro m hm fr M hI H hs
   obtain ⟨k, e, fr1, H1, M1, h1, h2, h3⟩ := ih (hb m fr M hI) H hs
   cases e with
   | normal => obtain ⟨j, hj, _⟩ := h3; omega
   | _ => exact ⟨k + 1, _, fr1, H1, M1, by show stepC tbl (run tbl k) (.loop c) fr H = _; simp only [stepC, h1], h2, h3⟩
  | succ n ihn =>
   intro m hm fr M hI H hs
   obtain ⟨k, e, fr1, H1, M1, h1, h2, h3⟩ := ih (hb m fr M hI) H hs
   cases e with
   | normal =>
    obtain ⟨j, hj, hI2⟩ := h3
    obtain ⟨k2, e, fr2, H2, M2, h4, h5, h6⟩ := ihn j (by omega) fr1 M1 hI2 H1 h2
    refine ⟨max k k2 + 1, e, fr2, H2, M2, ?_, h5, h6⟩
    show stepC tbl (run tbl (max k k2)) (.loop c) fr H = _
    simp only [stepC]
    rw [run_le (Nat.le_max_left k k2) _ _ _ _ h1]
    exact run_le (Nat.le_max_right k k2) _ _ _ _ h4
   | _ => exact ⟨k + 1, _, fr1, H1, M1, by show stepC tbl (run tbl k) (.loop c) fr H = _; simp only [stepC, h1], h2, h3⟩
 | exit id => intro fr M Q h H hs; exact ⟨1, _, _, _, M, rfl, hs, h⟩
 | scope rest c ih _ =>
  intro fr M Q h H hs
  obtain ⟨n, e, fr1, H1, M1, h1, h2, h3⟩ := ih h H hs
  cases e with
  | goto l => exact h3.elim
  | _ => exact ⟨n + 1, _, fr1, H1, M1, by show stepC tbl (run tbl n) (.scope rest c) fr H = _; simp only [stepC, h1], h2, h3⟩
 | label l => intro fr M Q h H hs; exact ⟨1, _, _, _, M, rfl, hs, h⟩
 | goto l => intro fr M Q h H hs; exact ⟨1, _, _, _, M, rfl, hs, h⟩
 | ret => intro fr M Q h H hs; exact ⟨1, _, _, _, M, rfl, hs, h⟩
def resW (fr : Tr AV) (M : Mem) : List CRes → (AV → Prop) → Prop
 | [], k => k .nil
 | .tmp p :: r, k => someW (fr.get p) fun v => resW fr M r fun vs => k (.cons v vs)
 | .cell1 p :: r, k => someW (fr.get p) fun v => ptrW v fun q off => someW (M.cell q off) fun v => resW fr M r fun vs => k (.cons v vs)
 | .cellN p n :: r, k => someW (fr.get p) fun v => ptrW v fun q off => someW (M.cellsAt q off n) fun l => resW fr M r fun vs => k (.cons (.agg (AV.ofL l)) vs)
theorem resW_out {fr : Tr AV} {M : Mem} {H : Heap} (hs : Sees H M) : ∀ {l : List CRes} {k : AV → Prop}, resW fr M l k → ∃ vs, resultsL fr H l = some vs ∧ k vs := by
 intro l
 induction l with
 | nil => intro k h; exact ⟨.nil, rfl, h⟩
 | cons r rs ih =>
  intro k h
  cases r with
  | tmp p =>
   obtain ⟨v, h1, h2⟩ := someW_out h
   obtain ⟨vs, h3, h4⟩ := ih h2
   exact ⟨_, by simp [resultsL, CRes.ev, h1, h3], h4⟩
  | cell1 p =>
   obtain ⟨v, h1, h2⟩ := someW_out h
   obtain ⟨q, off, rfl, h3⟩ := ptrW_out h2
   obtain ⟨u, h4, h5⟩ := someW_out h3
   obtain ⟨vs, h6, h7⟩ := ih h5
   exact ⟨_, by simp [resultsL, CRes.ev, h1, hs.cell h4, h6], h7⟩
  | cellN p n =>
   obtain ⟨v, h1, h2⟩ := someW_out h
   obtain ⟨q, off, rfl, h3⟩ := ptrW_out h2
   obtain ⟨u, h4, h5⟩ := someW_out h3
   obtain ⟨vs, h6, h7⟩ := ih h5
   exact ⟨_, by simp [resultsL, CRes.ev, h1, (hs.cellsAt h4).1, h6], h7⟩
def resOne : AV → AV
 | .cons v .nil => v
 | vs => .tuple vs
def finW (rs : List CRes) (Q : CR → Mem → Prop) (e : Ex) (fr : Tr AV) (M : Mem) : Prop :=
 match e with
 | .normal => resW fr M rs fun vs => Q (.ret (resOne vs)) M
 | .ret => resW fr M rs fun vs => Q (.ret (resOne vs)) M
 | .pan v => Q (.pan v) M
 | _ => False
theorem CallW.intro {f : Nat} {as : AV} {M : Mem} {Q : CR → Mem → Prop} {cf : CFunc} {fr : Tr AV} (h1 : tbl f = some cf) (hk : cf.konst = none) (h2 : enterFr as 0 .leaf = some fr) (h3 : cf.body.wp tbl fr M (finW cf.results Q)) : CallW tbl f as M Q := by
 intro H hs
 obtain ⟨n, e, fr', H', M', h4, h5, h6⟩ := CCode.ok h3 H hs
 have done : ∀ (hx : resW fr' M' cf.results fun vs => Q (.ret (resOne vs)) M'), ∃ v, resultsA fr' H' cf.results = some v ∧ Q (.ret v) M' := by
  intro hx
  obtain ⟨vs, h7, h8⟩ := resW_out h5 hx
  refine ⟨resOne vs, ?_, h8⟩
  simp only [resultsA, h7, Option.bind_eq_bind, Option.bind_some]
  unfold resOne
  cases vs with
  | cons v r => cases r <;> rfl
  | _ => rfl
 have hc : callN tbl n f as H = finish cf (some (e, fr', H')) := by simp [callN, doCall, h1, hk, h2, h4]
 cases e with
 | normal => obtain ⟨v, h7, h8⟩ := done h6; exact ⟨n, .ret v, H', M', by rw [hc]; simp [finish, h7], h5, h8⟩
 | ret => obtain ⟨v, h7, h8⟩ := done h6; exact ⟨n, .ret v, H', M', by rw [hc]; simp [finish, h7], h5, h8⟩
 | pan v => exact ⟨n, .pan v, H', M', by rw [hc]; rfl, h5, h6⟩
 | _ => exact h6.elim
theorem CallW.konst {f : Nat} {M : Mem} {Q : CR → Mem → Prop} {cf : CFunc} {v : AV} (h1 : tbl f = some cf) (hk : cf.konst = some (.val v)) (h : Q (.ret v) M) : CallW tbl f .nil M Q :=
 fun H hs => ⟨0, .ret v, H, M, by simp [callN, doCall, h1, hk], hs, h⟩
theorem CallW.less {f : Nat} {as : AV} {M M' : Mem} {Q : CR → Mem → Prop} (h : CallW tbl f as M' Q) (hn : M'.next = M.next) (hl : ∀ p b, M'.get p = some b → M.get p = some b) : CallW tbl f as M Q :=
 fun H hs => h H (hs.less hn hl)
end
end Go.Dx
