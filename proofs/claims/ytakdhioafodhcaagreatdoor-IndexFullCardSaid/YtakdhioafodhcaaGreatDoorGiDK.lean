/- slices.IndexFunc and slices.DeleteFunc of one-cell elements, with a function that only reads. -/
import Derived.Test.YtakdhioafodhcaaGreatDoorGiSM
import Derived.Test.YtakdhioafodhcaaGreatDoorGiSPE
set_option linter.unusedVariables false
set_option linter.unusedSimpArgs false
namespace Go.Gi
open Go

abbrev ixfR0 : List IOp := [⟨some 4, .op (.mov), [.c (.int .i64 0)], none⟩]
abbrev ixfR1 : List IOp := [⟨some 6, .op (.mov), [.t 0], none⟩,
  ⟨some 7, .op (.len .slice), [.t 6], none⟩,
  ⟨some 8, .op (.mov), [.c (.int .i64 0)], none⟩]
abbrev ixfR2 : List IOp := [⟨some 9, .op (.bin .lss .prim), [.t 8, .t 7], none⟩]
abbrev ixfR3 : List IOp := [⟨some 10, .op (.mov), [.t 8], none⟩,
  ⟨some 5, .op (.mov), [.t 10], none⟩]
abbrev ixfR4 : List IOp := [⟨some 11, .op (.mov), [.t 1], none⟩,
  ⟨some 12, .op (.mov), [.t 0], none⟩,
  ⟨some 13, .op (.mov), [.t 5], none⟩,
  ⟨some 14, .op (.iaddr 1), [.t 12, .t 13], none⟩,
  ⟨some 15, .op (.load none), [.t 14], none⟩,
  ⟨some 16, .call none, [.t 11, .t 15], none⟩]
abbrev ixfR5 : List IOp := [⟨some 17, .op (.mov), [.t 5], none⟩,
  ⟨some 4, .op (.mov), [.t 17], none⟩]
abbrev ixfR6 : List IOp := [⟨some 18, .op (.bin .add .prim), [.t 8, .c (.int .i64 1)], none⟩,
  ⟨some 8, .op (.mov), [.t 18], none⟩]
abbrev ixfB : IC := (IC.seq (IC.reg ixfR2) (IC.seq (IC.cond (.t 9) IC.skip (IC.exit 0)) (IC.seq (IC.block 1 (IC.seq (IC.reg ixfR3) (IC.seq (IC.reg ixfR4) (IC.cond (.t 16) (IC.seq (IC.reg ixfR5) IC.ret) IC.skip)))) (IC.reg ixfR6))))
abbrev ixfR7 : List IOp := [⟨some 4, .op (.mov), [.c (.int .i64 (-1))], none⟩]
abbrev ixfC : IC := (IC.seq (IC.reg ixfR0) (IC.seq (IC.seq (IC.reg ixfR1) (IC.block 0 (IC.loop ixfB))) (IC.seq (IC.reg ixfR7) IC.ret)))
abbrev dkfR0 : List IOp := [⟨some 4, .op (.mov), [.c (.nils)], none⟩]
abbrev dkfR1 (gi : FuncId) : List IOp := [⟨some 8, .op (.mov), [.t 0], none⟩,
  ⟨some 9, .op (.mov), [.t 1], none⟩,
  ⟨some 10, .call none, [.f gi, .t 8, .t 9], none⟩,
  ⟨some 5, .op (.mov), [.t 10], none⟩]
abbrev dkfR2 : List IOp := [⟨some 11, .op (.mov), [.t 5], none⟩,
  ⟨some 12, .op (.bin .eql .prim), [.t 11, .c (.int .i64 (-1))], none⟩]
abbrev dkfR3 : List IOp := [⟨some 13, .op (.mov), [.t 0], none⟩,
  ⟨some 4, .op (.mov), [.t 13], none⟩]
abbrev dkfR4 : List IOp := [⟨some 14, .op (.mov), [.t 5], none⟩,
  ⟨some 15, .op (.bin .add .prim), [.t 14, .c (.int .i64 1)], none⟩,
  ⟨some 6, .op (.mov), [.t 15], none⟩]
abbrev dkfR5 : List IOp := [⟨some 16, .op (.mov), [.t 6], none⟩,
  ⟨some 17, .op (.mov), [.t 0], none⟩,
  ⟨some 18, .op (.len .slice), [.t 17], none⟩,
  ⟨some 19, .op (.bin .lss .prim), [.t 16, .t 18], none⟩]
abbrev dkfR6 : List IOp := [⟨some 22, .op (.mov), [.t 0], none⟩,
  ⟨some 23, .op (.mov), [.t 6], none⟩,
  ⟨some 24, .op (.iaddr 1), [.t 22, .t 23], none⟩,
  ⟨some 25, .op (.load none), [.t 24], none⟩,
  ⟨some 7, .op (.mov), [.t 25], none⟩]
abbrev dkfR7 : List IOp := [⟨some 26, .op (.mov), [.t 1], none⟩,
  ⟨some 27, .op (.mov), [.t 7], none⟩,
  ⟨some 28, .call none, [.t 26, .t 27], none⟩,
  ⟨some 29, .op (.un .not), [.t 28], none⟩]
abbrev dkfR8 : List IOp := [⟨some 30, .op (.mov), [.t 0], none⟩,
  ⟨some 31, .op (.mov), [.t 5], none⟩,
  ⟨some 32, .op (.mov), [.t 7], none⟩,
  ⟨some 33, .op (.iaddr 1), [.t 30, .t 31], none⟩,
  ⟨none, .op (.store 1), [.t 33, .t 32], none⟩]
abbrev dkfR9 : List IOp := [⟨some 34, .op (.mov), [.t 5], none⟩,
  ⟨some 35, .op (.bin .add .prim), [.t 34, .c (.int .i64 1)], none⟩,
  ⟨some 5, .op (.mov), [.t 35], none⟩]
abbrev dkfR10 : List IOp := [⟨some 20, .op (.mov), [.t 6], none⟩,
  ⟨some 21, .op (.bin .add .prim), [.t 20, .c (.int .i64 1)], none⟩,
  ⟨some 6, .op (.mov), [.t 21], none⟩]
abbrev dkfB : IC := (IC.seq (IC.seq (IC.reg dkfR5) (IC.cond (.t 19) IC.skip (IC.exit 0))) (IC.seq (IC.block 1 (IC.seq (IC.reg dkfR6) (IC.seq (IC.reg dkfR7) (IC.cond (.t 29) (IC.seq (IC.reg dkfR8) (IC.reg dkfR9)) IC.skip)))) (IC.reg dkfR10)))
abbrev dkfR11 (Z : List AV) : List IOp := [⟨some 36, .op (.mov), [.t 0], none⟩,
  ⟨some 37, .op (.mov), [.t 5], none⟩,
  ⟨some 38, .op (.slice 1 true false false), [.t 36, .t 37], none⟩,
  ⟨none, .op (.clear Z), [.t 38], none⟩]
abbrev dkfR12 : List IOp := [⟨some 39, .op (.mov), [.t 0], none⟩,
  ⟨some 40, .op (.mov), [.t 5], none⟩,
  ⟨some 41, .op (.slice 1 false true false), [.t 39, .t 40], none⟩,
  ⟨some 4, .op (.mov), [.t 41], none⟩]
abbrev dkfC (gi : FuncId) (Z : List AV) : IC := (IC.seq (IC.reg dkfR0) (IC.seq (IC.reg (dkfR1 gi)) (IC.seq (IC.seq (IC.reg dkfR2) (IC.cond (.t 12) (IC.seq (IC.reg dkfR3) IC.ret) IC.skip)) (IC.seq (IC.seq (IC.reg dkfR4) (IC.block 0 (IC.loop dkfB))) (IC.seq (IC.reg (dkfR11 Z)) (IC.seq (IC.reg dkfR12) IC.ret))))))

section
variable {α : Type} [Inhabited α] {P : Program} {L : El1 α} {hp : HP} {id cap : Nat} {e : TypeId} {ex : Bool} {l rest : List α} {p : α → Bool} {g : FuncId} {caps : List AV}
theorem indexF1 (hm : P.follows .mixedOrders = true) {hint : Nat → Nat} {f : FuncId} (hf : compF P hint f = some ⟨ixfC, 19, [.t 4]⟩) (h : hp[id]? = some (some (.row e (L.E.cs (l ++ rest))))) (hl : l.length ≤ 4611686018427387904)
    (hask : ∀ a, ACalls P g (L.v a :: caps) hp fun r H => r = .bool (p a) ∧ H = hp) : ACalls P f [.sl id 0 l.length 1 cap ex, .func g caps] hp fun r H => r = .int .i64 (idx p l) ∧ H = hp := by
  refine calls_e hm (TabOk.none _) hf (by rfl) (by simp) ?_
  refine vcE.step (by simp (disch := first | assumption | omega) only [go_sem, ↓reduceIte, Nat.reduceEqDiff, reduceCtorEq, Nat.reduceAdd, Nat.reduceLeDiff]; rfl) (vcE.then (fun e' tm H => H = hp ∧ ((e' = .normal ∧ idx p l = -1) ∨ (e' = .ret ∧ tm 4 = .int .i64 (idx p l)))) ?_ ?_)
  · refine vcE.step (by simp (disch := first | assumption | omega) only [go_sem, ↓reduceIte, Nat.reduceEqDiff, reduceCtorEq, Nat.reduceAdd, Nat.reduceLeDiff]; rfl) (vcE.block (vcE.count (by intro l tm hp h; simp at h)
      (fun i tm H => H = hp ∧ tm 0 = .sl id 0 l.length 1 cap ex ∧ tm 1 = .func g caps ∧ tm 7 = .int .i64 l.length ∧ tm 8 = .int .i64 i ∧ ∀ j, j < i → ∀ b, l[j]? = some b → p b = false) l.length ⟨rfl, rfl, rfl, rfl, rfl, by omega⟩ ?_ ?_))
    · rintro i tm H hi ⟨rfl, e0, e1, e7, e8, hb⟩
      obtain ⟨a, ha⟩ : ∃ a, l[i]? = some a := ⟨_, List.getElem?_eq_getElem hi⟩
      have ha2 : (l ++ rest)[i]? = some a := by rw [List.getElem?_append_left hi]; exact ha
      have hia : iaddrA 1 (.sl id 0 l.length 1 cap ex) (.int .i64 i) = some (.ptr id i) := iaddr_sl1 hi
      have hld := L.E.sl_load1 L.sz h ha2 (L.hv a) (L.one a)
      refine vcE.step (by simp (disch := first | assumption | omega) only [go_sem, ↓reduceIte, Nat.reduceEqDiff, reduceCtorEq, Nat.reduceAdd, Nat.reduceLeDiff, e7, e8]; rfl) (vcE.step (by simp (disch := first | assumption | omega) only [go_sem, ↓reduceIte, Nat.reduceEqDiff, reduceCtorEq, Nat.reduceAdd, Nat.reduceLeDiff]; rfl) (vcE.seq (vcE.block (vcE.step (by simp (disch := first | assumption | omega) only [go_sem, ↓reduceIte, Nat.reduceEqDiff, reduceCtorEq, Nat.reduceAdd, Nat.reduceLeDiff, e8]; rfl) ?_))))
      rw [show ixfR4 = ixfR4.take 5 ++ ixfR4.drop 5 from rfl]
      refine vcE.seq (vcE.app (vcE.ex (by simp (disch := first | assumption | omega) only [go_sem, ↓reduceIte, Nat.reduceEqDiff, reduceCtorEq, Nat.reduceAdd, Nat.reduceLeDiff, e0, e1, hia, ↓hld]; rfl) ⟨rfl, vcE.call (f := g) (caps := caps) (ys := [L.v a]) rfl (by simp only [evsE, evE, upd_app, Nat.reduceEqDiff, ↓reduceIte]) (hask a) ?_⟩))
      rintro r H ⟨rfl, rfl⟩
      cases hpa : p a
      · refine vcE.condFalse (by simp only [evE, putE, upd_app, Nat.reduceEqDiff, ↓reduceIte]) (vcE.ex (by simp only [exC]; rfl) ?_)
        refine vcE.ex (by simp (disch := first | assumption | omega) only [go_sem, ↓reduceIte, Nat.reduceEqDiff, reduceCtorEq, Nat.reduceAdd, Nat.reduceLeDiff, e8]; rfl) ?_
        refine ⟨rfl, ?_, ?_, ?_, ?_, fun j hj b hb' => ?_⟩
        · simp only [upd_app, Nat.reduceEqDiff, ↓reduceIte, putE, e0]
        · simp only [upd_app, Nat.reduceEqDiff, ↓reduceIte, putE, e1]
        · simp only [upd_app, Nat.reduceEqDiff, ↓reduceIte, putE, e7]
        · simp only [upd_app, Nat.reduceEqDiff, ↓reduceIte]; rfl
        · by_cases hji' : j = i
          · subst hji'
            rw [ha] at hb'
            cases hb'
            exact hpa
          · exact hb j (by omega) b hb'
      · have hidx : idx p l = i := idx_some ha hpa hb
        refine vcE.condTrue (by simp only [evE, putE, upd_app, Nat.reduceEqDiff, ↓reduceIte]) (vcE.ex (by simp (disch := first | assumption | omega) only [go_sem, ↓reduceIte, Nat.reduceEqDiff, reduceCtorEq, Nat.reduceAdd, Nat.reduceLeDiff, putE]; rfl) ?_)
        exact ⟨rfl, .inr ⟨rfl, by simp only [upd_app, Nat.reduceEqDiff, ↓reduceIte, hidx]⟩⟩
    · rintro tm H ⟨rfl, e0, e1, e7, e8, hb⟩
      refine vcE.ex (by simp (disch := first | assumption | omega) only [go_sem, ↓reduceIte, Nat.reduceEqDiff, reduceCtorEq, Nat.reduceAdd, Nat.reduceLeDiff, e7, e8]; rfl) ?_
      exact ⟨rfl, .inl ⟨rfl, idx_none hb⟩⟩
  · rintro e' tm H ⟨rfl, ⟨rfl, h1⟩ | ⟨rfl, h1⟩⟩
    · refine vcE.ex (by simp (disch := first | assumption | omega) only [go_sem, ↓reduceIte, Nat.reduceEqDiff, reduceCtorEq, Nat.reduceAdd, Nat.reduceLeDiff]; rfl) ?_
      exact ⟨_, rfl, by simp only [upd_app, Nat.reduceEqDiff, ↓reduceIte, h1], rfl⟩
    · exact ⟨_, rfl, h1, rfl⟩
/-- The first elements are gone through: the row then. -/
def DJ (L : El1 α) (e : TypeId) (id : Nat) (hp : HP) (R : List α) (H : HP) : Prop := (∀ j, j ≠ id → H[j]? = hp[j]?) ∧ H[id]? = some (some (.row e (L.E.cs R)))
theorem deleteF1 (hm : P.follows .mixedOrders = true) {hint hint' : Nat → Nat} {f gi : FuncId} (z : α) (hf : compF P hint f = some ⟨dkfC gi (L.E.c z), 42, [.t 4]⟩) (hfi : compF P hint' gi = some ⟨ixfC, 19, [.t 4]⟩) (h : hp[id]? = some (some (.row e (L.E.cs (l ++ rest))))) (hl : l.length ≤ 4611686018427387904) (hcap : l.length ≤ cap)
    (hask : ∀ a H, (∀ j, j ≠ id → H[j]? = hp[j]?) → ACalls P g (L.v a :: caps) H fun r H' => r = .bool (p a) ∧ H' = H) : ACalls P f [.sl id 0 l.length 1 cap ex, .func g caps] hp fun r H => r = .sl id 0 (l.filter fun a => !p a).length 1 cap ex ∧ ∃ rest', (l.filter fun a => !p a).length + rest'.length = l.length + rest.length ∧ DJ L e id hp ((l.filter fun a => !p a) ++ rest') H := by
  refine calls_e hm (TabOk.none _) hf (by rfl) (by simp) ?_
  refine vcE.step (by simp (disch := first | assumption | omega) only [go_sem, ↓reduceIte, Nat.reduceEqDiff, reduceCtorEq, Nat.reduceAdd, Nat.reduceLeDiff]; rfl) ?_
  rw [show dkfR1 gi = (dkfR1 gi).take 2 ++ (((dkfR1 gi).drop 2).take 1 ++ (dkfR1 gi).drop 3) from rfl]
  refine vcE.seq (vcE.app (vcE.ex (by simp (disch := first | assumption | omega) only [go_sem, ↓reduceIte, Nat.reduceEqDiff, reduceCtorEq, Nat.reduceAdd, Nat.reduceLeDiff]; rfl) ⟨rfl, vcE.app (vcE.call (f := gi) (caps := []) (ys := [.sl id 0 l.length 1 cap ex, .func g caps]) rfl (by simp only [evsE, evE, upd_app, Nat.reduceEqDiff, ↓reduceIte]) (indexF1 hm hfi h hl fun a => hask a hp fun _ _ => rfl) ?_)⟩))
  rintro r hp ⟨rfl, rfl⟩
  refine ⟨rfl, vcE.ex (by simp (disch := first | assumption | omega) only [go_sem, ↓reduceIte, Nat.reduceEqDiff, reduceCtorEq, Nat.reduceAdd, Nat.reduceLeDiff]; rfl) ?_⟩
  by_cases hneg : idx p l < 0
  · have hm1 : idx p l = -1 := by unfold idx at hneg ⊢; split at hneg <;> omega
    have hfl := idx_neg hneg
    refine vcE.ex (by simp (disch := first | assumption | omega) only [go_sem, ↓reduceIte, Nat.reduceEqDiff, reduceCtorEq, Nat.reduceAdd, Nat.reduceLeDiff, hm1]; rfl) ?_
    refine ⟨_, rfl, ?_, rest, by rw [hfl], fun _ _ => rfl, by rw [hfl]; exact h⟩
    simp only [upd_app, Nat.reduceEqDiff, ↓reduceIte, start_app, List.getD_cons_zero, hfl]
  · obtain ⟨i, hi⟩ : ∃ i : Nat, idx p l = i := ⟨(idx p l).toNat, by omega⟩
    rw [hi]
    obtain ⟨hil, hr1, hk1⟩ := rowed_first hi
    refine vcE.step (by simp (disch := first | assumption | omega) only [go_sem, ↓reduceIte, Nat.reduceEqDiff, reduceCtorEq, Nat.reduceAdd, Nat.reduceLeDiff]; rfl) (vcE.then (fun e' tm H => e' = .normal ∧ DJ L e id hp (rowed p l l.length ++ rest) H ∧ tm 0 = .sl id 0 l.length 1 cap ex ∧ tm 5 = .int .i64 (kept p l l.length).length) ?_ ?_)
    · refine vcE.step (by simp (disch := first | assumption | omega) only [go_sem, ↓reduceIte, Nat.reduceEqDiff, reduceCtorEq, Nat.reduceAdd, Nat.reduceLeDiff]; rfl) (vcE.block (vcE.count (by intro l tm hp h; simp at h)
        (fun k tm H => DJ L e id hp (rowed p l (i + 1 + k) ++ rest) H ∧ tm 0 = .sl id 0 l.length 1 cap ex ∧ tm 1 = .func g caps ∧ tm 5 = .int .i64 (kept p l (i + 1 + k)).length ∧ tm 6 = .int .i64 ((i + 1 + k : Nat) : Int)) (l.length - (i + 1)) ⟨⟨fun _ _ => rfl, ?_⟩, rfl, rfl, ?_, ?_⟩ ?_ ?_))
      · rw [Nat.add_zero, hr1]; exact h
      · simp only [upd_app, Nat.reduceEqDiff, ↓reduceIte, Nat.add_zero, hk1]
      · simp only [upd_app, Nat.reduceEqDiff, ↓reduceIte, Nat.add_zero]; rfl
      · rintro k tm H hk ⟨⟨hfr, hrk⟩, t0, t1, t5, t6⟩
        obtain ⟨a, ha⟩ : ∃ a, l[i + 1 + k]? = some a := ⟨_, List.getElem?_eq_getElem (by omega)⟩
        have hrl := rowed_len p l (i + 1 + k)
        have ha2 : (rowed p l (i + 1 + k) ++ rest)[i + 1 + k]? = some a := by rw [List.getElem?_append_left (by omega)]; exact rowed_get ha
        have hia : iaddrA 1 (.sl id 0 l.length 1 cap ex) (.int .i64 ((i + 1 + k : Nat) : Int)) = some (.ptr id (i + 1 + k)) := iaddr_sl1 (by omega)
        have hld := L.E.sl_load1 L.sz hrk ha2 (L.hv a) (L.one a)
        have hkl := kept_le p l (i + 1 + k)
        refine vcE.step (by simp (disch := first | assumption | omega) only [go_sem, ↓reduceIte, Nat.reduceEqDiff, reduceCtorEq, Nat.reduceAdd, Nat.reduceLeDiff, t0, t6]; rfl) (vcE.seq (vcE.block (vcE.step (by simp (disch := first | assumption | omega) only [go_sem, ↓reduceIte, Nat.reduceEqDiff, reduceCtorEq, Nat.reduceAdd, Nat.reduceLeDiff, t0, t6, hia, ↓hld]; rfl) ?_)))
        rw [show dkfR7 = dkfR7.take 2 ++ ((dkfR7.drop 2).take 1 ++ dkfR7.drop 3) from rfl]
        refine vcE.seq (vcE.app (vcE.ex (by simp (disch := first | assumption | omega) only [go_sem, ↓reduceIte, Nat.reduceEqDiff, reduceCtorEq, Nat.reduceAdd, Nat.reduceLeDiff, t1]; rfl) ⟨rfl, vcE.app (vcE.call (f := g) (caps := caps) (ys := [L.v a]) rfl (by simp only [evsE, evE, upd_app, Nat.reduceEqDiff, ↓reduceIte]) (hask a H hfr) ?_)⟩))
        rintro r H ⟨rfl, rfl⟩
        refine ⟨rfl, vcE.ex (by simp (disch := first | assumption | omega) only [go_sem, ↓reduceIte, Nat.reduceEqDiff, reduceCtorEq, Nat.reduceAdd, Nat.reduceLeDiff]; rfl) ?_⟩
        cases hpa : p a
        · refine vcE.condTrue (by simp only [evE, putE, upd_app, Nat.reduceEqDiff, ↓reduceIte, Bool.not_false]) ?_
          have hia2 : iaddrA 1 (.sl id 0 l.length 1 cap ex) (.int .i64 ((kept p l (i + 1 + k)).length : Int)) = some (.ptr id (kept p l (i + 1 + k)).length) := iaddr_sl1 (by omega)
          have hst2 := L.E.sl_store1 L.sz hrk (i := (kept p l (i + 1 + k)).length) (by rw [List.length_append, hrl]; omega) (b := a) (v := L.v a) (L.ce a) (L.nt a)
          rw [List.set_append_left _ _ (by omega), rowed_keep ha hpa] at hst2
          refine vcE.ex (by simp (disch := first | assumption | omega) only [go_sem, ↓reduceIte, Nat.reduceEqDiff, reduceCtorEq, Nat.reduceAdd, Nat.reduceLeDiff, putE, t0, t5, ↓hia2, ↓hst2]; rfl) ?_
          refine vcE.ex (by simp (disch := first | assumption | omega) only [go_sem, ↓reduceIte, Nat.reduceEqDiff, reduceCtorEq, Nat.reduceAdd, Nat.reduceLeDiff, t6]; rfl) ?_
          refine ⟨⟨fun j hj => ?_, ?_⟩, ?_, ?_, ?_, ?_⟩
          · rw [List.getElem?_set_ne (Ne.symm hj)]
            exact hfr j hj
          · exact set_get hrk
          · simp only [upd_app, Nat.reduceEqDiff, ↓reduceIte, t0]
          · simp only [upd_app, Nat.reduceEqDiff, ↓reduceIte, t1]
          · simp only [upd_app, Nat.reduceEqDiff, ↓reduceIte, ← Nat.add_assoc, kept_step ha, hpa, Bool.false_eq_true, List.length_append, List.length_cons, List.length_nil]
            rfl
          · simp only [upd_app, Nat.reduceEqDiff, ↓reduceIte]; rfl
        · refine vcE.condFalse (by simp only [evE, putE, upd_app, Nat.reduceEqDiff, ↓reduceIte, Bool.not_true]) (vcE.ex (by simp only [exC]; rfl) ?_)
          refine vcE.ex (by simp (disch := first | assumption | omega) only [go_sem, ↓reduceIte, Nat.reduceEqDiff, reduceCtorEq, Nat.reduceAdd, Nat.reduceLeDiff, putE, t6]; rfl) ?_
          refine ⟨⟨hfr, ?_⟩, ?_, ?_, ?_, ?_⟩
          · rw [← Nat.add_assoc, rowed_drop ha hpa]; exact hrk
          · simp only [upd_app, Nat.reduceEqDiff, ↓reduceIte, t0]
          · simp only [upd_app, Nat.reduceEqDiff, ↓reduceIte, t1]
          · simp only [upd_app, Nat.reduceEqDiff, ↓reduceIte, ← Nat.add_assoc, kept_step ha, hpa, if_true, List.append_nil, t5]
          · simp only [upd_app, Nat.reduceEqDiff, ↓reduceIte]; rfl
      · rintro tm H ⟨hj, t0, t1, t5, t6⟩
        rw [show i + 1 + (l.length - (i + 1)) = l.length by omega] at hj t5 t6
        refine vcE.ex (by simp (disch := first | assumption | omega) only [go_sem, ↓reduceIte, Nat.reduceEqDiff, reduceCtorEq, Nat.reduceAdd, Nat.reduceLeDiff, t0, t6]; rfl) ?_
        refine ⟨rfl, hj, ?_, ?_⟩
        · simp only [upd_app, Nat.reduceEqDiff, ↓reduceIte, t0]
        · simp only [upd_app, Nat.reduceEqDiff, ↓reduceIte, t5]
    · rintro e' tm H ⟨rfl, ⟨hfr, hrl⟩, t0, t5⟩
      have hkl := kept_le p l l.length
      have hrow2 := rowed_len p l l.length
      have s1 : sliceA 1 (.sl id 0 l.length 1 cap ex) (some (.int .i64 ((kept p l l.length).length : Int))) none none = _ := slice_lo (by omega) hcap
      rw [Nat.zero_add, Nat.mul_one] at s1
      have s2 := L.E.sl_clear (z := z) (ex := ex) (m := cap - (kept p l l.length).length) (i := (kept p l l.length).length) (n := l.length - (kept p l l.length).length) hrl (by rw [List.length_append]; omega)
      rw [L.sz, Nat.mul_one] at s2
      have s3 : sliceA 1 (.sl id 0 l.length 1 cap ex) none (some (.int .i64 ((kept p l l.length).length : Int))) none = _ := slice_hi (by omega)
      refine vcE.ex (by simp (disch := first | assumption | omega) only [go_sem, ↓reduceIte, Nat.reduceEqDiff, reduceCtorEq, Nat.reduceAdd, Nat.reduceLeDiff, t0, t5, ↓s1, ↓s2, ↓s3]; rfl) ?_
      have hke := kept_all p l
      refine ⟨_, rfl, ?_, (rowed p l l.length ++ rest).drop (l.filter fun a => !p a).length |>.drop (l.length - (l.filter fun a => !p a).length) |> (List.replicate (l.length - (l.filter fun a => !p a).length) z ++ ·), ?_, fun j hj => ?_, ?_⟩
      · simp only [upd_app, Nat.reduceEqDiff, ↓reduceIte, hke]
      · simp only [List.length_append, List.length_replicate, List.length_drop, hrow2]
        rw [← hke]
        omega
      · rw [List.getElem?_set_ne (Ne.symm hj)]
        exact hfr j hj
      · rw [set_get hrl, ← hke, List.append_assoc, List.drop_drop]
        congr 5
        rw [rowed, List.append_assoc, List.take_left]
end
end Go.Gi
