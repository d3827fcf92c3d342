/- slices.Sort, as compiled, for elements that lie in one cell: the whole. -/
import Derived.Test.YtakdhioafodhcaaGreatDoorGiSPD
set_option linter.unusedVariables false
set_option linter.unusedSimpArgs false
set_option linter.unusedSectionVars false
namespace Go.Gi
open Go

/-- The functions of slices.Sort, by their numbers. -/
structure SrtF (P : Program) (less : FuncId) where
  (fsd fins fhs fo2 fmd fma fcp frv fl64 fl32 fbl fnp fxs fbp fpi fpe fpt fpdq : FuncId)
  (ti tx : TypeId)
  (hsd' hins' hhs' ho2' hmd' hma' hcp' hrv' h64' hbl' hnp' hxs' hbp' hpi' hpe' hpt' hpdq' : Nat → Nat)
  hsd : compF P hsd' fsd = some ⟨sdC less, sdN, []⟩
  hins : compF P hins' fins = some ⟨insC less, insN, []⟩
  hhs : compF P hhs' fhs = some ⟨hsC fsd, hsN, []⟩
  ho2 : compF P ho2' fo2 = some ⟨o2C less, o2N, [.t 8, .t 9]⟩
  hmd : compF P hmd' fmd = some ⟨mdC fo2, mdN, [.t 10]⟩
  hma : compF P hma' fma = some ⟨maC fmd, maN, [.t 6]⟩
  hcp : compF P hcp' fcp = some ⟨cpC fmd fma ti, cpN, [.t 6, .t 7]⟩
  hrv : compF P hrv' frv = some ⟨rvC, rvN, []⟩
  h64 : compF P h64' fl64 = some ⟨l64C, l64N, [.t 2]⟩
  hbl : compF P hbl' fbl = some ⟨blC fl64 fl32, blN, [.t 2]⟩
  hnp : compF P hnp' fnp = some ⟨npC fbl, npN, [.t 2]⟩
  hxs : compF P hxs' fxs = some ⟨xsC, xsN, [.t 2]⟩
  hbp : compF P hbp' fbp = some ⟨bpC fnp fxs tx, bpN, []⟩
  hpi : compF P hpi' fpi = some ⟨piC less, piN, [.t 6]⟩
  hpe : compF P hpe' fpe = some ⟨peC less, peN, [.t 8]⟩
  hpt : compF P hpt' fpt = some ⟨ptC less, ptN, [.t 8, .t 9]⟩
  hpdq : compF P hpdq' fpdq = some ⟨pdqC less fins fhs fbp fcp frv fpi fpe fpt fpdq, pdqN, []⟩

section
variable {α : Type} [Inhabited α] {L : El1 α} {lt : α → α → Bool} {P : Program} {T : Tab} {less : FuncId} {hint : Nat → Nat} {f : FuncId} {e : TypeId} {id : Nat} {hp0 hp : HP} {d : Array α} {v : AV}
/-- What is left to be sorted makes the whole sorted. -/
def Todo (lt : α → α → Bool) (a b : Nat) (d : Array α) (a' b' : Nat) (d' : Array α) : Prop := ∀ R, Sort.PermIn a' b' d' R → Sort.SortedIn lt a' b' R → Sort.PermIn a b d R ∧ Sort.SortedIn lt a b R
theorem Todo.perm {a b a' b' : Nat} {d d1 d2 : Array α} (h : Todo lt a b d a' b' d1) (hp : Sort.PermIn a' b' d1 d2) : Todo lt a b d a' b' d2 := fun R h1 h2 => h R (Sort.permIn_trans _ _ _ _ _ hp h1) h2
def Done (L : El1 α) (lt : α → α → Bool) (e : TypeId) (id : Nat) (hp0 : HP) (a b : Nat) (d : Array α) (r : AV) (hp' : HP) : Prop := r = .tup [] ∧ ∃ R, Srt L e id hp0 hp' R ∧ Sort.PermIn a b d R ∧ Sort.SortedIn lt a b R
/-- What a round is made with. -/
def Rg (v : AV) (a b l : Nat) (wb wp : Bool) (tm : Env) : Prop := tm 0 = v ∧ tm 1 = .int .i64 a ∧ tm 2 = .int .i64 b ∧ tm 3 = .int .i64 l ∧ tm 8 = .bool wb ∧ tm 9 = .bool wp ∧ tm 10 = .int .i64 ((b - a : Nat) : Int)
theorem pdq_calls (hm : P.follows .mixedOrders = true) (hT : TabOk P T) (hless : Lss L lt T less) (hlt : Sort.SWO lt) (F : SrtF P less) : ∀ (n : Nat) {hp : HP} {d : Array α} (s : Srt L e id hp0 hp d) (hv : SlA id d v) {a b l : Nat} (hn : b - a < n) (hab : a ≤ b) (hb : b ≤ d.size) (hl : l ≤ 1000) (hB : Sort.Below lt a b d),
    ACalls P F.fpdq [v, .int .i64 a, .int .i64 b, .int .i64 l] hp (Done L lt e id hp0 a b d) := by
  obtain ⟨fsd, fins, fhs, fo2, fmd, fma, fcp, frv, fl64, fl32, fbl, fnp, fxs, fbp, fpi, fpe, fpt, fpdq, ti, tx, hsd', hins', hhs', ho2', hmd', hma', hcp', hrv', h64', hbl', hnp', hxs', hbp', hpi', hpe', hpt', hpdq', hsd, hins, hhs, ho2, hmd, hma, hcp, hrv, h64, hbl, hnp, hxs, hbp, hpi, hpe, hpt, hpdq⟩ := F
  simp only
  intro n
  induction n with
  | zero => intro hp d s hv a b l hn; omega
  | succ n ih =>
  intro hp d s hv a b l hn hab hb hl hB
  refine calls_e hm hT hpdq (by rfl) (by simp [pdqN]) ?_
  have hsz := hv.2
  refine vcE.step (by simp (disch := first | assumption | omega) only [go_sem, ↓reduceIte, Nat.reduceEqDiff, reduceCtorEq, Nat.reduceAdd, Nat.reduceLeDiff]; rfl) (vcE.step (by simp (disch := first | assumption | omega) only [go_sem, ↓reduceIte, Nat.reduceEqDiff, reduceCtorEq, Nat.reduceAdd, Nat.reduceLeDiff]; rfl) (vcE.block (vcE.loop (by intro l tm hp h; simp [RetE] at h) (fun k tm hp => ∃ (a' b' l' : Nat) (wb wp : Bool) (d' : Array α), k = b' - a' ∧ a' ≤ b' ∧ b' - a' ≤ b - a ∧ b' ≤ d.size ∧ l' ≤ 1000 ∧ d'.size = d.size ∧ Srt L e id hp0 hp d' ∧ Sort.Below lt a' b' d' ∧ Todo lt a b d a' b' d' ∧ tm 0 = v ∧ tm 1 = .int .i64 a' ∧ tm 2 = .int .i64 b' ∧ tm 3 = .int .i64 l' ∧ tm 8 = .bool wb ∧ tm 9 = .bool wp) (b - a) ⟨a, b, l, true, true, d, rfl, hab, by omega, hb, hl, rfl, s, hB, fun R h1 h2 => ⟨h1, h2⟩, rfl, rfl, rfl, rfl, rfl, rfl⟩ ?_)))
  clear s
  rintro k tm hp ⟨a1, b1, l1, wb, wp, d1, rfl, hab1, hba1, hb1, hl1, hd1, s, hB1, hTo, t0, t1, t2, t3, t8, t9⟩
  have hv1 := hv.of hd1
  have w1 := natW (x := (b1 : Int) - (a1 : Int)) (b1 - a1) (by omega) (by omega)
  refine vcE.block (vcE.step (by simp (disch := first | assumption | omega) only [go_sem, ↓reduceIte, Nat.reduceEqDiff, reduceCtorEq, Nat.reduceAdd, Nat.reduceLeDiff, t1, t2, w1]; rfl) ?_)
  have done : ∀ {hp : HP} {d2 : Array α} {tm : Env}, Srt L e id hp0 hp d2 → Sort.PermIn a1 b1 d1 d2 → Sort.SortedIn lt a1 b1 d2 → RetE [] (Done L lt e id hp0 a b d) .ret tm hp := by
    intro hp d2 tm s2 h1 h2
    obtain ⟨g1, g2⟩ := hTo _ h1 h2
    exact ⟨.tup [], rfl, rfl, d2, s2, g1, g2⟩
  by_cases h12 : b1 - a1 ≤ 12
  · have h12' : ((b1 - a1 : Nat) : Int) ≤ 12 := by omega
    refine vcE.seq (vcE.step (by simp (disch := first | assumption | omega) only [go_sem, ↓reduceIte, Nat.reduceEqDiff, reduceCtorEq, Nat.reduceAdd, Nat.reduceLeDiff, h12', decide_true]; rfl) (vcE.condTrue (by simp only [evE, upd_app, Nat.reduceEqDiff, ↓reduceIte]) (vcE.then (fun e' tm' hp' => e' = .normal ∧ RetE [] (Done L lt e id hp0 a b d) .ret tm' hp') ?_ ?_)))
    · rw [show pdqR4 less fins fhs fbp fcp frv fpi fpe fpt fpdq = (pdqR4 less fins fhs fbp fcp frv fpi fpe fpt fpdq).take 3 ++ (pdqR4 less fins fhs fbp fcp frv fpi fpe fpt fpdq).drop 3 from rfl]
      refine vcE.app (vcE.ex (by simp (disch := first | assumption | omega) only [go_sem, ↓reduceIte, Nat.reduceEqDiff, reduceCtorEq, Nat.reduceAdd, Nat.reduceLeDiff, t0, t1, t2]; rfl) ⟨rfl, vcE.call (f := fins) (caps := []) (ys := [v, .int .i64 a1, .int .i64 b1]) rfl ?_ (ins_calls hm hT hless hins s hv1 (a := a1) (b := b1) (by omega) (by omega)) ?_⟩)
      · simp only [evsE, evE, upd_app, Nat.reduceEqDiff, ↓reduceIte, t0, t1, t2]
      rintro r hp' ⟨rfl, s2⟩
      obtain ⟨g1, g2⟩ := Sort.insertionSort_holds hlt d1 a1 b1 hab1 (by omega)
      exact ⟨rfl, done s2 g1 g2⟩
    · rintro e' tm' hp' ⟨rfl, h⟩
      exact vcE.ex (by simp (disch := first | assumption | omega) only [go_sem, ↓reduceIte, Nat.reduceEqDiff, reduceCtorEq, Nat.reduceAdd, Nat.reduceLeDiff]; rfl) h
  have h12' : ¬ ((b1 - a1 : Nat) : Int) ≤ 12 := by omega
  refine vcE.step (by simp (disch := first | assumption | omega) only [go_sem, ↓reduceIte, Nat.reduceEqDiff, reduceCtorEq, Nat.reduceAdd, Nat.reduceLeDiff, h12', decide_false]; rfl) ?_
  by_cases hl0 : l1 = 0
  · subst hl0
    refine vcE.seq (vcE.step (by simp (disch := first | assumption | omega) only [go_sem, ↓reduceIte, Nat.reduceEqDiff, reduceCtorEq, Nat.reduceAdd, Nat.reduceLeDiff, t3]; rfl) (vcE.condTrue (by simp only [evE, upd_app, Nat.reduceEqDiff, ↓reduceIte]) (vcE.then (fun e' tm' hp' => e' = .normal ∧ RetE [] (Done L lt e id hp0 a b d) .ret tm' hp') ?_ ?_)))
    · rw [show pdqR6 less fins fhs fbp fcp frv fpi fpe fpt fpdq = (pdqR6 less fins fhs fbp fcp frv fpi fpe fpt fpdq).take 3 ++ (pdqR6 less fins fhs fbp fcp frv fpi fpe fpt fpdq).drop 3 from rfl]
      refine vcE.app (vcE.ex (by simp (disch := first | assumption | omega) only [go_sem, ↓reduceIte, Nat.reduceEqDiff, reduceCtorEq, Nat.reduceAdd, Nat.reduceLeDiff, t0, t1, t2]; rfl) ⟨rfl, vcE.call (f := fhs) (caps := []) (ys := [v, .int .i64 a1, .int .i64 b1]) rfl ?_ (hs_calls hm hT hless hsd hhs s hv1 (a := a1) (b := b1) (by omega) (by omega)) ?_⟩)
      · simp only [evsE, evE, upd_app, Nat.reduceEqDiff, ↓reduceIte, t0, t1, t2]
      rintro r hp' ⟨rfl, s2⟩
      obtain ⟨g1, g2⟩ := Sort.heapSort_holds hlt d1 a1 b1 hab1 (by omega)
      exact ⟨rfl, done s2 g1 g2⟩
    · rintro e' tm' hp' ⟨rfl, h⟩
      exact vcE.ex (by simp (disch := first | assumption | omega) only [go_sem, ↓reduceIte, Nat.reduceEqDiff, reduceCtorEq, Nat.reduceAdd, Nat.reduceLeDiff]; rfl) h
  have hl0' : ¬ (l1 : Int) = 0 := by omega
  refine vcE.step (by simp (disch := first | assumption | omega) only [go_sem, ↓reduceIte, Nat.reduceEqDiff, reduceCtorEq, Nat.reduceAdd, Nat.reduceLeDiff, t3, hl0', decide_false]; rfl) ?_
  have hlt1 : a1 < b1 := by omega
  -- patterns
  refine vcE.then (fun e' tm' hp' => e' = .normal ∧ ∃ (l2 : Nat) (d2 : Array α), l2 ≤ 1000 ∧ Sort.PermIn a1 b1 d1 d2 ∧ Srt L e id hp0 hp' d2 ∧ Rg v a1 b1 l2 wb wp tm') ?_ ?_
  · cases wb with
    | true =>
      refine vcE.ex (by simp (disch := first | assumption | omega) only [go_sem, ↓reduceIte, Nat.reduceEqDiff, reduceCtorEq, Nat.reduceAdd, Nat.reduceLeDiff, t8]; rfl) ?_
      refine ⟨rfl, l1, d1, hl1, Sort.permIn_refl _ _ _, s, ?_⟩
      refine ⟨?_, ?_, ?_, ?_, ?_, ?_, ?_⟩
      all_goals simp only [upd_app, Nat.reduceEqDiff, ↓reduceIte, t0, t1, t2, t3, t8, t9]
    | false =>
      refine vcE.step (by simp (disch := first | assumption | omega) only [go_sem, ↓reduceIte, Nat.reduceEqDiff, reduceCtorEq, Nat.reduceAdd, Nat.reduceLeDiff, t8]; rfl) (vcE.condTrue (by simp only [evE, upd_app, Nat.reduceEqDiff, ↓reduceIte]) (vcE.then (fun e' tm' hp' => e' = .normal ∧ ∃ (d2 : Array α), Sort.PermIn a1 b1 d1 d2 ∧ Srt L e id hp0 hp' d2 ∧ Rg v a1 b1 l1 false wp tm') ?_ ?_))
      · rw [show pdqR8 less fins fhs fbp fcp frv fpi fpe fpt fpdq = (pdqR8 less fins fhs fbp fcp frv fpi fpe fpt fpdq).take 3 ++ (pdqR8 less fins fhs fbp fcp frv fpi fpe fpt fpdq).drop 3 from rfl]
        refine vcE.app (vcE.ex (by simp (disch := first | assumption | omega) only [go_sem, ↓reduceIte, Nat.reduceEqDiff, reduceCtorEq, Nat.reduceAdd, Nat.reduceLeDiff, t0, t1, t2]; rfl) ⟨rfl, vcE.call (f := fbp) (caps := []) (ys := [v, .int .i64 a1, .int .i64 b1]) rfl ?_ (bp_calls hm hT h64 hbl hnp hxs hbp s hv1 (a := a1) (b := b1) (by omega) (by omega)) ?_⟩)
        · simp only [evsE, evE, upd_app, Nat.reduceEqDiff, ↓reduceIte, t0, t1, t2]
        rintro r hp' ⟨rfl, s2, hd2⟩
        refine ⟨rfl, _, Sort.breakPatterns_holds d1 a1 b1 hab1 (by omega), s2, ?_⟩
        refine ⟨?_, ?_, ?_, ?_, ?_, ?_, ?_⟩
        all_goals simp only [putE, upd_app, Nat.reduceEqDiff, ↓reduceIte, t0, t1, t2, t3, t8, t9]
      · rintro e' tm' hp' ⟨rfl, d2, p2, s2, u0, u1, u2, u3, u8, u9, u10⟩
        have w3 := natW (x := (l1 : Int) - 1) (l1 - 1) (by omega) (by omega)
        refine vcE.ex (by simp (disch := first | assumption | omega) only [go_sem, ↓reduceIte, Nat.reduceEqDiff, reduceCtorEq, Nat.reduceAdd, Nat.reduceLeDiff, u3, w3]; rfl) ?_
        refine ⟨rfl, l1 - 1, d2, by omega, p2, s2, ?_⟩
        refine ⟨?_, ?_, ?_, ?_, ?_, ?_, ?_⟩
        all_goals simp only [upd_app, Nat.reduceEqDiff, ↓reduceIte, u0, u1, u2, u8, u9, u10]
  clear t0 t1 t2 t3 t8 t9 s
  rintro e' tm hp' ⟨rfl, l2, d2, hl2, p2, s, t0, t1, t2, t3, t8, t9, t10⟩
  have hd2 : d2.size = d.size := p2.1.trans hd1
  have hv2 := hv.of hd2
  -- the pivot
  obtain ⟨hc1, hc2⟩ := Sort.choosePivot_holds lt d2 a1 b1 hlt1
  refine vcE.then (fun e' tm' hp' => e' = .normal ∧ Srt L e id hp0 hp' d2 ∧ Rg v a1 b1 l2 wb wp tm' ∧ tm' 11 = .int .i64 ((Sort.choosePivot lt d2 a1 b1).1 : Nat) ∧ tm' 12 = .int .i64 (hintI (Sort.choosePivot lt d2 a1 b1).2)) ?_ ?_
  · rw [show pdqR10 less fins fhs fbp fcp frv fpi fpe fpt fpdq = (pdqR10 less fins fhs fbp fcp frv fpi fpe fpt fpdq).take 3 ++ ((pdqR10 less fins fhs fbp fcp frv fpi fpe fpt fpdq).drop 3).take 1 ++ (pdqR10 less fins fhs fbp fcp frv fpi fpe fpt fpdq).drop 4 from rfl]
    refine vcE.app (vcE.app (vcE.ex (by simp (disch := first | assumption | omega) only [go_sem, ↓reduceIte, Nat.reduceEqDiff, reduceCtorEq, Nat.reduceAdd, Nat.reduceLeDiff, t0, t1, t2]; rfl) ⟨rfl, vcE.call (f := fcp) (caps := []) (ys := [v, .int .i64 a1, .int .i64 b1]) rfl ?_ (cp_calls hm hT hless ho2 hmd hma hcp s hv2 (a := a1) (b := b1) (by omega) (by omega)) ?_⟩))
    · simp only [evsE, evE, upd_app, Nat.reduceEqDiff, ↓reduceIte, t0, t1, t2]
    rintro r hp' ⟨rfl, s2⟩
    refine ⟨rfl, vcE.ex (by simp (disch := first | assumption | omega) only [go_sem, ↓reduceIte, Nat.reduceEqDiff, reduceCtorEq, Nat.reduceAdd, Nat.reduceLeDiff, putE]; rfl) ?_⟩
    refine ⟨rfl, s2, ⟨?_, ?_, ?_, ?_, ?_, ?_, ?_⟩, ?_, ?_⟩
    all_goals simp only [upd_app, Nat.reduceEqDiff, ↓reduceIte, t0, t1, t2, t3, t8, t9, t10]
  clear t0 t1 t2 t3 t8 t9 t10 s
  rintro e' tm hp' ⟨rfl, s, ⟨t0, t1, t2, t3, t8, t9, t10⟩, t11, t12⟩
  generalize Sort.choosePivot lt d2 a1 b1 = c at *
  obtain ⟨c1, ch⟩ := c
  simp only at *
  -- turned round
  refine vcE.then (fun e' tm' hp' => e' = .normal ∧ ∃ (p : Nat) (hi : Int) (d3 : Array α), a1 ≤ p ∧ p < b1 ∧ Sort.PermIn a1 b1 d1 d3 ∧ Srt L e id hp0 hp' d3 ∧ Rg v a1 b1 l2 wb wp tm' ∧ tm' 11 = .int .i64 p ∧ tm' 12 = .int .i64 hi) ?_ ?_
  · by_cases hdec : hintI ch = 2
    · rw [hdec] at t12
      refine vcE.step (by simp (disch := first | assumption | omega) only [go_sem, ↓reduceIte, Nat.reduceEqDiff, reduceCtorEq, Nat.reduceAdd, Nat.reduceLeDiff, t12]; rfl) (vcE.condTrue (by simp only [evE, upd_app, Nat.reduceEqDiff, ↓reduceIte]) (vcE.then (fun e' tm' hp' => e' = .normal ∧ Srt L e id hp0 hp' (Sort.reverseRange d2 a1 b1) ∧ Rg v a1 b1 l2 wb wp tm' ∧ tm' 11 = .int .i64 c1) ?_ ?_))
      · rw [show pdqR12 less fins fhs fbp fcp frv fpi fpe fpt fpdq = (pdqR12 less fins fhs fbp fcp frv fpi fpe fpt fpdq).take 3 ++ (pdqR12 less fins fhs fbp fcp frv fpi fpe fpt fpdq).drop 3 from rfl]
        refine vcE.app (vcE.ex (by simp (disch := first | assumption | omega) only [go_sem, ↓reduceIte, Nat.reduceEqDiff, reduceCtorEq, Nat.reduceAdd, Nat.reduceLeDiff, t0, t1, t2]; rfl) ⟨rfl, vcE.call (f := frv) (caps := []) (ys := [v, .int .i64 a1, .int .i64 b1]) rfl ?_ (rv_calls hm hT hrv s hv2 (a := a1) (b := b1) (by omega) (by omega)) ?_⟩)
        · simp only [evsE, evE, upd_app, Nat.reduceEqDiff, ↓reduceIte, t0, t1, t2]
        rintro r hp' ⟨rfl, s2, hd3⟩
        refine ⟨rfl, s2, ⟨?_, ?_, ?_, ?_, ?_, ?_, ?_⟩, ?_⟩
        all_goals simp only [putE, upd_app, Nat.reduceEqDiff, ↓reduceIte, t0, t1, t2, t3, t8, t9, t10, t11]
      · rintro e' tm' hp' ⟨rfl, s2, ⟨u0, u1, u2, u3, u8, u9, u10⟩, u11⟩
        have w3 := natW (x := (b1 : Int) - 1) (b1 - 1) (by omega) (by omega)
        have w4 := natW (x := (c1 : Int) - (a1 : Int)) (c1 - a1) (by omega) (by omega)
        have w5 := natW (x := ((b1 - 1 : Nat) : Int) - ((c1 - a1 : Nat) : Int)) (b1 - 1 - (c1 - a1)) (by omega) (by omega)
        refine vcE.ex (by simp (disch := first | assumption | omega) only [go_sem, ↓reduceIte, Nat.reduceEqDiff, reduceCtorEq, Nat.reduceAdd, Nat.reduceLeDiff, u1, u2, u11, w3, w4, w5]; rfl) ?_
        refine ⟨rfl, b1 - 1 - (c1 - a1), 1, _, by omega, by omega, Sort.permIn_trans _ _ _ _ _ p2 (Sort.reverseRange_holds d2 a1 b1 hab1 (by omega)), s2, ⟨?_, ?_, ?_, ?_, ?_, ?_, ?_⟩, ?_, ?_⟩
        all_goals simp only [upd_app, Nat.reduceEqDiff, ↓reduceIte, u0, u1, u2, u3, u8, u9, u10]
    · refine vcE.ex (by simp (disch := first | assumption | omega) only [go_sem, ↓reduceIte, Nat.reduceEqDiff, reduceCtorEq, Nat.reduceAdd, Nat.reduceLeDiff, t12, hdec, decide_false]; rfl) ?_
      refine ⟨rfl, c1, hintI ch, d2, hc1, hc2, p2, s, ⟨?_, ?_, ?_, ?_, ?_, ?_, ?_⟩, ?_, ?_⟩
      all_goals simp only [upd_app, Nat.reduceEqDiff, ↓reduceIte, t0, t1, t2, t3, t8, t9, t10, t11, t12]
  clear t0 t1 t2 t3 t8 t9 t10 t11 t12 s p2 hd2 hv2 hc1 hc2 d2 hl1 l1 hl0 hl0' tm
  rintro e' tm hp' ⟨rfl, p, hi, d3, hp1, hp2, p3, s, ⟨t0, t1, t2, t3, t8, t9, t10⟩, t11, t12⟩
  have hd3 : d3.size = d.size := p3.1.trans hd1
  have hv3 := hv.of hd3
  have hB3 := hB1.perm (by omega) p3
  -- perhaps it is sorted almost
  refine vcE.then (fun e' tm' hp' => RetE [] (Done L lt e id hp0 a b d) .ret tm' hp' ∧ e' = .ret ∨ e' = .normal ∧ ∃ (d4 : Array α), Sort.PermIn a1 b1 d1 d4 ∧ Srt L e id hp0 hp' d4 ∧ Rg v a1 b1 l2 wb wp tm' ∧ tm' 11 = .int .i64 p) ?_ ?_
  · by_cases hyes : (wb && wp && decide (hi = 1)) = true
    · simp only [Bool.and_eq_true, decide_eq_true_eq] at hyes
      obtain ⟨⟨rfl, rfl⟩, rfl⟩ := hyes
      refine vcE.step (by simp (disch := first | assumption | omega) only [go_sem, ↓reduceIte, Nat.reduceEqDiff, reduceCtorEq, Nat.reduceAdd, Nat.reduceLeDiff, t8, t9, t12]; rfl) (vcE.condTrue (by simp only [evE, upd_app, Nat.reduceEqDiff, ↓reduceIte]) (vcE.then (fun e' tm' hp' => e' = .normal ∧ Srt L e id hp0 hp' (Sort.partialInsertionSort lt d3 a1 b1).1 ∧ Rg v a1 b1 l2 true true tm' ∧ tm' 11 = .int .i64 p ∧ tm' 72 = .bool (Sort.partialInsertionSort lt d3 a1 b1).2) ?_ ?_))
      · rw [show pdqR16 less fins fhs fbp fcp frv fpi fpe fpt fpdq = (pdqR16 less fins fhs fbp fcp frv fpi fpe fpt fpdq).take 3 ++ (pdqR16 less fins fhs fbp fcp frv fpi fpe fpt fpdq).drop 3 from rfl]
        refine vcE.app (vcE.ex (by simp (disch := first | assumption | omega) only [go_sem, ↓reduceIte, Nat.reduceEqDiff, reduceCtorEq, Nat.reduceAdd, Nat.reduceLeDiff, t0, t1, t2]; rfl) ⟨rfl, vcE.call (f := fpi) (caps := []) (ys := [v, .int .i64 a1, .int .i64 b1]) rfl ?_ (pi_calls hm hT hless hpi s hv3 (a := a1) (b := b1) (by omega) (by omega)) ?_⟩)
        · simp only [evsE, evE, upd_app, Nat.reduceEqDiff, ↓reduceIte, t0, t1, t2]
        rintro r hp' ⟨rfl, s2, hd4⟩
        refine ⟨rfl, s2, ⟨?_, ?_, ?_, ?_, ?_, ?_, ?_⟩, ?_, ?_⟩
        all_goals simp only [putE, upd_app, Nat.reduceEqDiff, ↓reduceIte, t0, t1, t2, t3, t8, t9, t10, t11]
      · obtain ⟨g1, g2⟩ := Sort.partialInsertionSort_holds hlt d3 a1 b1 hlt1 (by omega) hB3
        rintro e' tm' hp' ⟨rfl, s2, hr, u11, u72⟩
        generalize Sort.partialInsertionSort lt d3 a1 b1 = q at *
        obtain ⟨d4, qb⟩ := q
        simp only at *
        have p4 := Sort.permIn_trans _ _ _ _ _ p3 g1
        cases qb with
        | true =>
          refine vcE.ex (by simp (disch := first | assumption | omega) only [go_sem, ↓reduceIte, Nat.reduceEqDiff, reduceCtorEq, Nat.reduceAdd, Nat.reduceLeDiff, u72]; rfl) ?_
          exact .inl ⟨done s2 p4 (g2 rfl), rfl⟩
        | false =>
          refine vcE.ex (by simp (disch := first | assumption | omega) only [go_sem, ↓reduceIte, Nat.reduceEqDiff, reduceCtorEq, Nat.reduceAdd, Nat.reduceLeDiff, u72]; rfl) ?_
          exact .inr ⟨rfl, d4, p4, s2, hr, u11⟩
    · have no : RetE [] (Done L lt e id hp0 a b d) .ret tm hp' ∧ Exit.normal = .ret ∨ Exit.normal = .normal ∧ ∃ (d4 : Array α), Sort.PermIn a1 b1 d1 d4 ∧ Srt L e id hp0 hp' d4 ∧ Rg v a1 b1 l2 wb wp tm ∧ tm 11 = .int .i64 p := .inr ⟨rfl, d3, p3, s, ⟨t0, t1, t2, t3, t8, t9, t10⟩, t11⟩
      cases wb with
      | false =>
        refine vcE.ex (by simp (disch := first | assumption | omega) only [go_sem, ↓reduceIte, Nat.reduceEqDiff, reduceCtorEq, Nat.reduceAdd, Nat.reduceLeDiff, t8, t9, t12]; rfl) ?_
        refine .inr ⟨rfl, d3, p3, s, ⟨?_, ?_, ?_, ?_, ?_, ?_, ?_⟩, ?_⟩
        all_goals simp only [upd_app, Nat.reduceEqDiff, ↓reduceIte, t0, t1, t2, t3, t8, t9, t10, t11]
      | true =>
      cases wp with
      | false =>
        refine vcE.ex (by simp (disch := first | assumption | omega) only [go_sem, ↓reduceIte, Nat.reduceEqDiff, reduceCtorEq, Nat.reduceAdd, Nat.reduceLeDiff, t8, t9, t12]; rfl) ?_
        refine .inr ⟨rfl, d3, p3, s, ⟨?_, ?_, ?_, ?_, ?_, ?_, ?_⟩, ?_⟩
        all_goals simp only [upd_app, Nat.reduceEqDiff, ↓reduceIte, t0, t1, t2, t3, t8, t9, t10, t11]
      | true =>
        have hne : ¬ hi = 1 := by simpa using hyes
        refine vcE.ex (by simp (disch := first | assumption | omega) only [go_sem, ↓reduceIte, Nat.reduceEqDiff, reduceCtorEq, Nat.reduceAdd, Nat.reduceLeDiff, t8, t9, t12, hne, decide_false]; rfl) ?_
        refine .inr ⟨rfl, d3, p3, s, ⟨?_, ?_, ?_, ?_, ?_, ?_, ?_⟩, ?_⟩
        all_goals simp only [upd_app, Nat.reduceEqDiff, ↓reduceIte, t0, t1, t2, t3, t8, t9, t10, t11]
  clear t0 t1 t2 t3 t8 t9 t10 t11 t12 s p3 hd3 hv3 hB3 d3 tm
  rintro e' tm hp' (⟨h, rfl⟩ | ⟨rfl, d4, p4, s, ⟨t0, t1, t2, t3, t8, t9, t10⟩, t11⟩)
  · exact h
  have hd4 : d4.size = d.size := p4.1.trans hd1
  have hv4 := hv.of hd4
  have hB4 := hB1.perm (by omega) p4
  have hT4 := hTo.perm p4
  have hp3 : p < d4.size := by omega
  have y2 := hv4.1 p hp3
  have q2 := pick_at (L := L) hp3
  have x1 := s.get hp3
  have hfz := L.fz
  -- all that is there equals what stands before it?
  have eqs : ∀ (hce : (decide (a1 > 0) && !lt d4[a1 - 1]! d4[p]!) = true) {tm : Env}, tm 0 = v → tm 1 = .int .i64 a1 → tm 2 = .int .i64 b1 → tm 3 = .int .i64 l2 → tm 8 = .bool wb → tm 9 = .bool wp → tm 11 = .int .i64 p → vcE P hpdq' T pdqN (IC.seq (IC.reg (pdqR18 less fins fhs fbp fcp frv fpi fpe fpt fpdq)) (IC.seq (IC.reg (pdqR19 less fins fhs fbp fcp frv fpi fpe fpt fpdq)) (IC.exit 1))) tm hp' fun e' tm' hp' => e' = .exit 1 ∧ ∃ k' : Nat, k' < b1 - a1 ∧ ∃ (a' b' l' : Nat) (wb wp : Bool) (d' : Array α), k' = b' - a' ∧ a' ≤ b' ∧ b' - a' ≤ b - a ∧ b' ≤ d.size ∧ l' ≤ 1000 ∧ d'.size = d.size ∧ Srt L e id hp0 hp' d' ∧ Sort.Below lt a' b' d' ∧ Todo lt a b d a' b' d' ∧ tm' 0 = v ∧ tm' 1 = .int .i64 a' ∧ tm' 2 = .int .i64 b' ∧ tm' 3 = .int .i64 l' ∧ tm' 8 = .bool wb ∧ tm' 9 = .bool wp := by
    intro hce tm t0 t1 t2 t3 t8 t9 t11
    simp only [Bool.and_eq_true, decide_eq_true_eq, Bool.not_eq_true'] at hce
    have hx : Sort.partitionEqual lt d4 a1 b1 p = ((Sort.partitionEqual lt d4 a1 b1 p).1, (Sort.partitionEqual lt d4 a1 b1 p).2) := rfl
    obtain ⟨g1, g2, g3, g4, g5⟩ := Sort.round_eq hlt (Sort.partitionEqual_holds lt) hce.1 hp1 hp2 (by omega) hB4 hce.2 hx
    refine vcE.then (fun e' tm' hp' => e' = .normal ∧ Srt L e id hp0 hp' (Sort.partitionEqual lt d4 a1 b1 p).2 ∧ tm' 0 = v ∧ tm' 2 = .int .i64 b1 ∧ tm' 3 = .int .i64 l2 ∧ tm' 8 = .bool wb ∧ tm' 9 = .bool wp ∧ tm' 13 = .int .i64 ((Sort.partitionEqual lt d4 a1 b1 p).1 : Nat)) ?_ ?_
    · rw [show pdqR18 less fins fhs fbp fcp frv fpi fpe fpt fpdq = (pdqR18 less fins fhs fbp fcp frv fpi fpe fpt fpdq).take 4 ++ ((pdqR18 less fins fhs fbp fcp frv fpi fpe fpt fpdq).drop 4).take 1 ++ (pdqR18 less fins fhs fbp fcp frv fpi fpe fpt fpdq).drop 5 from rfl]
      refine vcE.app (vcE.app (vcE.ex (by simp (disch := first | assumption | omega) only [go_sem, ↓reduceIte, Nat.reduceEqDiff, reduceCtorEq, Nat.reduceAdd, Nat.reduceLeDiff, t0, t1, t2, t11]; rfl) ⟨rfl, vcE.call (f := fpe) (caps := []) (ys := [v, .int .i64 a1, .int .i64 b1, .int .i64 p]) rfl ?_ (pe_calls hm hT hless hpe s hv4 (a := a1) (b := b1) (p := p) (by omega) (by omega) hp3) ?_⟩))
      · simp only [evsE, evE, upd_app, Nat.reduceEqDiff, ↓reduceIte, t0, t1, t2, t11]
      rintro r hp' ⟨rfl, s2, hd5⟩
      refine ⟨rfl, vcE.ex (by simp (disch := first | assumption | omega) only [go_sem, ↓reduceIte, Nat.reduceEqDiff, reduceCtorEq, Nat.reduceAdd, Nat.reduceLeDiff, putE]; rfl) ?_⟩
      refine ⟨rfl, s2, ?_, ?_, ?_, ?_, ?_, ?_⟩
      all_goals simp only [upd_app, Nat.reduceEqDiff, ↓reduceIte, t0, t1, t2, t3, t8, t9]
    · rintro e' tm' hp' ⟨rfl, s2, u0, u2, u3, u8, u9, u13⟩
      generalize Sort.partitionEqual lt d4 a1 b1 p = q at *
      obtain ⟨mid, d5⟩ := q
      simp only at *
      refine vcE.ex (by simp (disch := first | assumption | omega) only [go_sem, ↓reduceIte, Nat.reduceEqDiff, reduceCtorEq, Nat.reduceAdd, Nat.reduceLeDiff, u13]; rfl) ?_
      refine ⟨rfl, b1 - mid, by omega, mid, b1, l2, wb, wp, d5, rfl, g2, by omega, hb1, hl2, by omega, s2, g4, ?_, ?_, ?_, ?_, ?_, ?_, ?_⟩
      · intro R h1 h2
        obtain ⟨z1, z2⟩ := g5 R h1 h2
        exact hT4 R z1 z2
      all_goals simp only [upd_app, Nat.reduceEqDiff, ↓reduceIte, u0, u2, u3, u8, u9]
  refine vcE.then (fun e' tm' hp'' => (e' = .exit 1 ∧ ∃ k' : Nat, k' < b1 - a1 ∧ ∃ (a' b' l' : Nat) (wb wp : Bool) (d' : Array α), k' = b' - a' ∧ a' ≤ b' ∧ b' - a' ≤ b - a ∧ b' ≤ d.size ∧ l' ≤ 1000 ∧ d'.size = d.size ∧ Srt L e id hp0 hp'' d' ∧ Sort.Below lt a' b' d' ∧ Todo lt a b d a' b' d' ∧ tm' 0 = v ∧ tm' 1 = .int .i64 a' ∧ tm' 2 = .int .i64 b' ∧ tm' 3 = .int .i64 l' ∧ tm' 8 = .bool wb ∧ tm' 9 = .bool wp) ∨ e' = .normal ∧ hp'' = hp' ∧ Rg v a1 b1 l2 wb wp tm' ∧ tm' 11 = .int .i64 p) ?_ ?_
  · by_cases ha0 : a1 = 0
    · subst ha0
      refine vcE.ex (by simp (disch := first | assumption | omega) only [go_sem, ↓reduceIte, Nat.reduceEqDiff, reduceCtorEq, Nat.reduceAdd, Nat.reduceLeDiff, t1, t11]; rfl) ?_
      refine .inr ⟨rfl, rfl, ⟨?_, ?_, ?_, ?_, ?_, ?_, ?_⟩, ?_⟩
      all_goals simp only [upd_app, Nat.reduceEqDiff, ↓reduceIte, t0, t1, t2, t3, t8, t9, t10, t11]
    have ha0' : (0 : Int) < (a1 : Int) := by omega
    have ha1 : a1 - 1 < d4.size := by omega
    have y1 := hv4.1 (a1 - 1) ha1
    have q1 := pick_at (L := L) ha1
    have w3 := natW (x := (a1 : Int) - 1) (a1 - 1) (by omega) (by omega)
    have hc := hless d4[a1 - 1]! d4[p]!
    cases hle : lt d4[a1 - 1]! d4[p]! <;> rw [hle] at hc
    · refine vcE.step (by simp (disch := first | assumption | omega) only [exC, chain, ordered, List.getElem?_cons_zero, List.getElem?_cons_succ, exOps.eq_2, exOp, wantedE, ↓reduceIte, ROp.run, evsE, evE, t1, putE, exOps, ty, same, binA, intA, ha0', decide_true, Option.map_some, beq_self_eq_true, reduceCtorEq, t0, Nat.reduceEqDiff, w3, y1, loadA, rowA, x1, ↓q1, t11, y2, ↓q2, List.append_nil, frzL.eq_2, hfz, frzL, hc, Cls.isFree, callCls, Bool.not_false, nidL.eq_2, nidL, Bool.true_or, unA, cond_true]; rfl) (vcE.condTrue (by simp only [evE, upd_app, Nat.reduceEqDiff, ↓reduceIte]) ?_)
      refine vcE.mono (eqs (by simp [hle]; omega) ?_ ?_ ?_ ?_ ?_ ?_ ?_) (fun e' tm' hp' h => .inl h)
      all_goals simp only [upd_app, Nat.reduceEqDiff, ↓reduceIte, t0, t1, t2, t3, t8, t9, t11]
    · refine vcE.ex (by simp (disch := first | assumption | omega) only [exC, chain, ordered, List.getElem?_cons_zero, List.getElem?_cons_succ, exOps.eq_2, exOp, wantedE, ↓reduceIte, ROp.run, evsE, evE, t1, putE, exOps, ty, same, binA, intA, ha0', decide_true, Option.map_some, beq_self_eq_true, reduceCtorEq, t0, Nat.reduceEqDiff, w3, y1, loadA, rowA, x1, ↓q1, t11, y2, ↓q2, List.append_nil, frzL.eq_2, hfz, frzL, hc, Cls.isFree, callCls, nidL.eq_2, nidL, Bool.true_or, unA, Bool.not_true, cond_true]; rfl) ?_
      refine .inr ⟨rfl, rfl, ⟨?_, ?_, ?_, ?_, ?_, ?_, ?_⟩, ?_⟩
      all_goals simp only [upd_app, Nat.reduceEqDiff, ↓reduceIte, t0, t1, t2, t3, t8, t9, t10, t11]
  clear t0 t1 t2 t3 t8 t9 t10 t11 eqs
  rintro e' tm hp'' (⟨rfl, h⟩ | ⟨rfl, rfl, ⟨t0, t1, t2, t3, t8, t9, t10⟩, t11⟩)
  · exact h
  -- the partition
  have hx : Sort.partition lt d4 a1 b1 p = ((Sort.partition lt d4 a1 b1 p).1, (Sort.partition lt d4 a1 b1 p).2.1, (Sort.partition lt d4 a1 b1 p).2.2) := rfl
  obtain ⟨g1, g2, g3, g4, g5, g6, g7⟩ := Sort.round_part hlt (Sort.partition_holds lt) hp1 hp2 (by omega) hB4 hx
  refine vcE.then (fun e' tm' hp' => e' = .normal ∧ Srt L e id hp0 hp' (Sort.partition lt d4 a1 b1 p).2.2 ∧ Rg v a1 b1 l2 wb wp tm' ∧ tm' 14 = .int .i64 ((Sort.partition lt d4 a1 b1 p).1 : Nat) ∧ tm' 15 = .bool (Sort.partition lt d4 a1 b1 p).2.1) ?_ ?_
  · rw [show pdqR20 less fins fhs fbp fcp frv fpi fpe fpt fpdq = (pdqR20 less fins fhs fbp fcp frv fpi fpe fpt fpdq).take 4 ++ ((pdqR20 less fins fhs fbp fcp frv fpi fpe fpt fpdq).drop 4).take 1 ++ (pdqR20 less fins fhs fbp fcp frv fpi fpe fpt fpdq).drop 5 from rfl]
    refine vcE.app (vcE.app (vcE.ex (by simp (disch := first | assumption | omega) only [go_sem, ↓reduceIte, Nat.reduceEqDiff, reduceCtorEq, Nat.reduceAdd, Nat.reduceLeDiff, t0, t1, t2, t11]; rfl) ⟨rfl, vcE.call (f := fpt) (caps := []) (ys := [v, .int .i64 a1, .int .i64 b1, .int .i64 p]) rfl ?_ (pt_calls hm hT hless hpt s hv4 (a := a1) (b := b1) (p := p) (by omega) (by omega) hp3) ?_⟩))
    · simp only [evsE, evE, upd_app, Nat.reduceEqDiff, ↓reduceIte, t0, t1, t2, t11]
    rintro r hp' ⟨rfl, s2, hd5⟩
    refine ⟨rfl, vcE.ex (by simp (disch := first | assumption | omega) only [go_sem, ↓reduceIte, Nat.reduceEqDiff, reduceCtorEq, Nat.reduceAdd, Nat.reduceLeDiff, putE]; rfl) ?_⟩
    refine ⟨rfl, s2, ⟨?_, ?_, ?_, ?_, ?_, ?_, ?_⟩, ?_, ?_⟩
    all_goals simp only [upd_app, Nat.reduceEqDiff, ↓reduceIte, t0, t1, t2, t3, t8, t9, t10]
  clear t0 t1 t2 t3 t8 t9 t10 t11 s y2 q2 x1
  rintro e' tm hp'' ⟨rfl, s, ⟨t0, t1, t2, t3, t8, t9, t10⟩, t14, t15⟩
  generalize Sort.partition lt d4 a1 b1 p = q at *
  obtain ⟨mid, ap, d5⟩ := q
  simp only at *
  have hd5 : d5.size = d.size := by omega
  have hv5 := hv.of hd5
  have w3 := natW (x := (mid : Int) - (a1 : Int)) (mid - a1) (by omega) (by omega)
  have w4 := natW (x := (b1 : Int) - (mid : Int)) (b1 - mid) (by omega) (by omega)
  have q8 : ((b1 - a1 : Nat) : Int).tdiv 8 = (((b1 - a1) / 8 : Nat) : Int) := natQ (b1 - a1) 8
  have w5 := natW (x := (((b1 - a1) / 8 : Nat) : Int)) ((b1 - a1) / 8) rfl (by omega)
  refine vcE.step (by simp (disch := first | assumption | omega) only [go_sem, ↓reduceIte, Nat.reduceEqDiff, reduceCtorEq, Nat.reduceAdd, Nat.reduceLeDiff, t15]; rfl) (vcE.step (by simp (disch := first | assumption | omega) only [go_sem, ↓reduceIte, Nat.reduceEqDiff, reduceCtorEq, Nat.reduceAdd, Nat.reduceLeDiff, t1, t2, t14, w3, w4]; rfl) (vcE.step (by simp (disch := first | assumption | omega) only [go_sem, ↓reduceIte, Nat.reduceEqDiff, reduceCtorEq, Nat.reduceAdd, Nat.reduceLeDiff, t10, q8, w5]; rfl) ?_))
  by_cases hle : mid - a1 < b1 - mid
  · have hle' : ((mid - a1 : Nat) : Int) < ((b1 - mid : Nat) : Int) := by omega
    refine vcE.step (by simp (disch := first | assumption | omega) only [go_sem, ↓reduceIte, Nat.reduceEqDiff, reduceCtorEq, Nat.reduceAdd, Nat.reduceLeDiff, hle', decide_true]; rfl) (vcE.condTrue (by simp only [evE, upd_app, Nat.reduceEqDiff, ↓reduceIte]) (vcE.step (by simp (disch := first | assumption | omega) only [go_sem, ↓reduceIte, Nat.reduceEqDiff, reduceCtorEq, Nat.reduceAdd, Nat.reduceLeDiff]; rfl) (vcE.then (fun e' tm' hp' => e' = .normal ∧ ∃ R, Srt L e id hp0 hp' R ∧ Sort.PermIn a1 mid d5 R ∧ Sort.SortedIn lt a1 mid R ∧ tm' 0 = v ∧ tm' 2 = .int .i64 b1 ∧ tm' 3 = .int .i64 l2 ∧ (∃ wb, tm' 8 = .bool wb) ∧ tm' 9 = .bool ap ∧ tm' 14 = .int .i64 mid) ?_ ?_)))
    · rw [show pdqR26 less fins fhs fbp fcp frv fpi fpe fpt fpdq = (pdqR26 less fins fhs fbp fcp frv fpi fpe fpt fpdq).take 4 ++ (pdqR26 less fins fhs fbp fcp frv fpi fpe fpt fpdq).drop 4 from rfl]
      refine vcE.app (vcE.ex (by simp (disch := first | assumption | omega) only [go_sem, ↓reduceIte, Nat.reduceEqDiff, reduceCtorEq, Nat.reduceAdd, Nat.reduceLeDiff, t0, t1, t3, t14]; rfl) ⟨rfl, vcE.call (f := fpdq) (caps := []) (ys := [v, .int .i64 a1, .int .i64 mid, .int .i64 l2]) rfl ?_ (ih s hv5 (a := a1) (b := mid) (l := l2) (by omega) (by omega) (by omega) hl2 g4) ?_⟩)
      · simp only [evsE, evE, upd_app, Nat.reduceEqDiff, ↓reduceIte, t0, t1, t3, t14]
      rintro r hp' ⟨rfl, R, s2, z1, z2⟩
      refine ⟨rfl, R, s2, z1, z2, ?_, ?_, ?_, ⟨decide (((mid - a1 : Nat) : Int) ≥ (((b1 - a1) / 8 : Nat) : Int)), ?_⟩, ?_, ?_⟩
      all_goals simp only [putE, upd_app, Nat.reduceEqDiff, ↓reduceIte, t0, t2, t3, t14]
    · rintro e' tm' hp' ⟨rfl, R, s2, z1, z2, u0, u2, u3, ⟨wb2, u8⟩, u9, u14⟩
      obtain ⟨f1, f2⟩ := g6 R z1 z2
      have w6 := natW (x := (mid : Int) + 1) (mid + 1) (by omega) (by omega)
      refine vcE.ex (by simp (disch := first | assumption | omega) only [go_sem, ↓reduceIte, Nat.reduceEqDiff, reduceCtorEq, Nat.reduceAdd, Nat.reduceLeDiff, u14, w6]; rfl) ?_
      have hsR := z1.1
      refine ⟨b1 - (mid + 1), by omega, mid + 1, b1, l2, wb2, ap, R, rfl, by omega, by omega, hb1, hl2, by omega, s2, f1, ?_, ?_, ?_, ?_, ?_, ?_, ?_⟩
      · intro R' h1 h2
        obtain ⟨x1, x2⟩ := f2 R' h1 h2
        exact hT4 R' x1 x2
      all_goals simp only [upd_app, Nat.reduceEqDiff, ↓reduceIte, u0, u2, u3, u8, u9]
  · have hle' : ¬ ((mid - a1 : Nat) : Int) < ((b1 - mid : Nat) : Int) := by omega
    have w6 := natW (x := (mid : Int) + 1) (mid + 1) (by omega) (by omega)
    refine vcE.step (by simp (disch := first | assumption | omega) only [go_sem, ↓reduceIte, Nat.reduceEqDiff, reduceCtorEq, Nat.reduceAdd, Nat.reduceLeDiff, hle', decide_false]; rfl) (vcE.condFalse (by simp only [evE, upd_app, Nat.reduceEqDiff, ↓reduceIte]) (vcE.step (by simp (disch := first | assumption | omega) only [go_sem, ↓reduceIte, Nat.reduceEqDiff, reduceCtorEq, Nat.reduceAdd, Nat.reduceLeDiff]; rfl) (vcE.then (fun e' tm' hp' => e' = .normal ∧ ∃ R, Srt L e id hp0 hp' R ∧ Sort.PermIn (mid + 1) b1 d5 R ∧ Sort.SortedIn lt (mid + 1) b1 R ∧ tm' 0 = v ∧ tm' 1 = .int .i64 a1 ∧ tm' 3 = .int .i64 l2 ∧ (∃ wb, tm' 8 = .bool wb) ∧ tm' 9 = .bool ap ∧ tm' 14 = .int .i64 mid) ?_ ?_)))
    · rw [show pdqR29 less fins fhs fbp fcp frv fpi fpe fpt fpdq = (pdqR29 less fins fhs fbp fcp frv fpi fpe fpt fpdq).take 5 ++ (pdqR29 less fins fhs fbp fcp frv fpi fpe fpt fpdq).drop 5 from rfl]
      refine vcE.app (vcE.ex (by simp (disch := first | assumption | omega) only [go_sem, ↓reduceIte, Nat.reduceEqDiff, reduceCtorEq, Nat.reduceAdd, Nat.reduceLeDiff, t0, t2, t3, t14, w6]; rfl) ⟨rfl, vcE.call (f := fpdq) (caps := []) (ys := [v, .int .i64 ((mid + 1 : Nat) : Int), .int .i64 b1, .int .i64 l2]) rfl ?_ (ih s hv5 (a := mid + 1) (b := b1) (l := l2) (by omega) (by omega) (by omega) hl2 g5) ?_⟩)
      · simp only [evsE, evE, upd_app, Nat.reduceEqDiff, ↓reduceIte, t0, t2, t3, t14]
      rintro r hp' ⟨rfl, R, s2, z1, z2⟩
      refine ⟨rfl, R, s2, z1, z2, ?_, ?_, ?_, ⟨decide (((b1 - mid : Nat) : Int) ≥ (((b1 - a1) / 8 : Nat) : Int)), ?_⟩, ?_, ?_⟩
      all_goals simp only [putE, upd_app, Nat.reduceEqDiff, ↓reduceIte, t0, t1, t3, t14]
    · rintro e' tm' hp' ⟨rfl, R, s2, z1, z2, u0, u1, u3, ⟨wb2, u8⟩, u9, u14⟩
      obtain ⟨f1, f2⟩ := g7 R z1 z2
      refine vcE.ex (by simp (disch := first | assumption | omega) only [go_sem, ↓reduceIte, Nat.reduceEqDiff, reduceCtorEq, Nat.reduceAdd, Nat.reduceLeDiff, u14]; rfl) ?_
      have hsR := z1.1
      refine ⟨mid - a1, by omega, a1, mid, l2, wb2, ap, R, rfl, by omega, by omega, by omega, hl2, by omega, s2, f1, ?_, ?_, ?_, ?_, ?_, ?_, ?_⟩
      · intro R' h1 h2
        obtain ⟨x1, x2⟩ := f2 R' h1 h2
        exact hT4 R' x1 x2
      all_goals simp only [upd_app, Nat.reduceEqDiff, ↓reduceIte, u0, u1, u3, u8, u9]
theorem srt_calls (hm : P.follows .mixedOrders = true) (hT : TabOk P T) (hless : Lss L lt T less) (hlt : Sort.SWO lt) (F : SrtF P less) (hf : compF P hint f = some ⟨srtC F.fbl F.fpdq, srtN, []⟩) (s : Srt L e id hp0 hp d) (hv : SlA id d v) (hlen : ∀ hp, lenA hp v = some (.int .i64 (d.size : Int))) (hlf : lenFits .slice v = true) :
    ACalls P f [v] hp (Done L lt e id hp0 0 d.size d) := by
  refine calls_e hm hT hf (by rfl) (by simp [srtN]) ?_
  have hsz := hv.2
  have w1 := wrapU (n := d.size) (by omega)
  refine vcE.step (by simp (disch := first | assumption | omega) only [go_sem, ↓reduceIte, Nat.reduceEqDiff, reduceCtorEq, Nat.reduceAdd, Nat.reduceLeDiff, hlen, hlf]; rfl) ?_
  rw [show srtR1 F.fbl F.fpdq = (srtR1 F.fbl F.fpdq).take 4 ++ ((srtR1 F.fbl F.fpdq).drop 4).take 1 ++ (srtR1 F.fbl F.fpdq).drop 5 from rfl]
  refine vcE.app (vcE.app (vcE.ex (by simp (disch := first | assumption | omega) only [go_sem, ↓reduceIte, Nat.reduceEqDiff, reduceCtorEq, Nat.reduceAdd, Nat.reduceLeDiff, w1]; rfl) ⟨rfl, vcE.call (f := F.fbl) (caps := []) (ys := [.int .u64 (d.size : Int)]) rfl ?_ (bl_calls hm hT F.h64 F.hbl (by omega)) ?_⟩))
  · simp only [evsE, evE, upd_app, Nat.reduceEqDiff, ↓reduceIte]
  rintro r hp' ⟨rfl, rfl⟩
  have hb : Sort.bitsLen d.size ≤ 62 := (Sort.bitsLen_le_iff _ 62).2 (by omega)
  refine ⟨rfl, vcE.call (f := F.fpdq) (caps := []) (ys := [v, .int .i64 ((0 : Nat) : Int), .int .i64 d.size, .int .i64 ((Sort.bitsLen d.size : Nat) : Int)]) rfl ?_ (pdq_calls hm hT hless hlt F (d.size + 1) s hv (a := 0) (b := d.size) (l := Sort.bitsLen d.size) (by omega) (Nat.zero_le _) (Nat.le_refl _) (by omega) (.inl rfl)) ?_⟩
  · simp only [evsE, evE, putE, upd_app, Nat.reduceEqDiff, ↓reduceIte]
    rfl
  rintro r hp' ⟨rfl, R, s2, h1, h2⟩
  exact ⟨.tup [], rfl, rfl, R, s2, h1, h2⟩
/-- The one sorted list. -/
theorem Done.eq {r : AV} {hp' : HP} (hlt : Sort.SWO lt) (ha : ∀ x y, lt x y = false → lt y x = false → x = y) (h : Done L lt e id hp0 0 d.size d r hp') : r = .tup [] ∧ Srt L e id hp0 hp' (d.toList.mergeSort fun x y => !lt y x).toArray := by
  obtain ⟨hr, R, s2, h1, h2⟩ := h
  have := Sort.sorted_unique_holds hlt ha d R h1 h2
  refine ⟨hr, ?_⟩
  rw [← this]
  exact s2
end
end Go.Gi
