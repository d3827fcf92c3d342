/- Functions of package slices, as compiled, for elements of any one kind: Equal, Index, Contains, ContainsFunc; outlawkit.Same. -/
import Derived.Test.YtakdhioafodhcaaGiON
import Derived.Test.YtakdhioafodhcaaGiU
set_option linter.unusedVariables false
set_option linter.unusedSimpArgs false
set_option linter.unusedSectionVars false
namespace Go.Gi
open Go

variable {α : Type} [DecidableEq α]

structure El (α : Type) [DecidableEq α] where
  E : Enc α
  v : α → AV
  sh : Option Nat
  K : EqK
  pk : ∀ {l : List α} {i : Nat} {a : α}, l[i]? = some a → pickA sh (E.cs l) (i * E.sz) = some (v a)
  nt : ∀ a, notTup (v a) = true
  ce : ∀ a, cellsA (v a) = E.c a
  nv : ∀ a, nid (v a) = true
  fz : ∀ hp a, frz hp (v a) = some (v a)
  eq : ∀ a b, binA .eql K (v a) (v b) = some (.bool (decide (a = b)))
  ne : ∀ a b, binA .neq K (v a) (v b) = some (.bool (!decide (a = b)))
theorem frz_aggE (E : Enc α) (hp : HP) (a : α) : frz hp (.agg (E.c a)) = some (.agg (E.c a)) := by
  simp only [frz, E.fz]
def El.st (E : Enc α) (ls : List Leaf) (h : ∀ a b, eqA (.st ls) (.agg (E.c a)) (.agg (E.c b)) = some (decide (a = b))) : El α where
  E := E
  v a := .agg (E.c a)
  sh := some E.sz
  K := .st ls
  pk h := E.pick h
  nt _ := rfl
  ce _ := rfl
  nv a := by simp only [nid, E.nd]
  fz hp a := frz_aggE E hp a
  eq a b := by simp only [binA, h, Option.map_some]
  ne a b := by simp only [binA, h, Option.map_some]

abbrev regX (d : Bool) (t : Tr) (is : List IOp) : IC := cond d (.regD .wild is t) (.reg is)
theorem regX_t (t : Tr) (is : List IOp) : regX true t is = .regD .wild is t := rfl
theorem regX_f (t : Tr) (is : List IOp) : regX false t is = .reg is := rfl

theorem take_step {l m : List α} {i : Nat} (h : l.take i = m.take i) {a : α} (h1 : l[i]? = some a) (h2 : m[i]? = some a) : l.take (i + 1) = m.take (i + 1) := by
  rw [List.take_add_one, List.take_add_one, h, h1, h2]

abbrev equalB (sz : Nat) (sh : Option Nat) (K : EqK) (d : Bool) : IC := (IC.seq (IC.reg [⟨some 14, .op (.bin .lss .prim), [.t 13, .t 12], none⟩]) (IC.seq (IC.cond (.t 14) IC.skip (IC.exit 0)) (IC.seq (IC.block 1 (IC.seq (IC.reg [⟨some 15, .op (.mov), [.t 13], none⟩, ⟨some 5, .op (.mov), [.t 15], none⟩]) (IC.seq (regX d (.take 0 (.take 1 (.take 2 (.take 3 (.take 4 (.take 5 (.take 6 (.take 7 (.take 8 (.done)))))))))) [⟨some 16, .op (.mov), [.t 0], none⟩,
  ⟨some 17, .op (.mov), [.t 5], none⟩,
  ⟨some 18, .op (.iaddr sz), [.t 16, .t 17], none⟩,
  ⟨some 19, .op (.load sh), [.t 18], none⟩,
  ⟨some 20, .op (.mov), [.t 1], none⟩,
  ⟨some 21, .op (.mov), [.t 5], none⟩,
  ⟨some 22, .op (.iaddr sz), [.t 20, .t 21], none⟩,
  ⟨some 23, .op (.load sh), [.t 22], none⟩,
  ⟨some 24, .op (.bin .neq K), [.t 19, .t 23], none⟩]) (IC.cond (.t 24) (IC.seq (IC.reg [⟨some 4, .op (.mov), [.c (.bool false)], none⟩]) IC.ret) IC.skip)))) (IC.reg [⟨some 25, .op (.bin .add .prim), [.t 13, .c (.int .i64 1)], none⟩, ⟨some 13, .op (.mov), [.t 25], none⟩]))))
abbrev equalC (sz : Nat) (sh : Option Nat) (K : EqK) (d : Bool) : IC := (IC.seq (IC.reg [⟨some 4, .op (.mov), [.c (.bool false)], none⟩]) (IC.seq (IC.seq (IC.reg [⟨some 6, .op (.mov), [.t 0], none⟩,
  ⟨some 7, .op (.len .slice), [.t 6], none⟩,
  ⟨some 8, .op (.mov), [.t 1], none⟩,
  ⟨some 9, .op (.len .slice), [.t 8], none⟩,
  ⟨some 10, .op (.bin .neq .prim), [.t 7, .t 9], none⟩]) (IC.cond (.t 10) (IC.seq (IC.reg [⟨some 4, .op (.mov), [.c (.bool false)], none⟩]) IC.ret) IC.skip)) (IC.seq (IC.seq (IC.reg [⟨some 11, .op (.mov), [.t 0], none⟩,
  ⟨some 12, .op (.len .slice), [.t 11], none⟩,
  ⟨some 13, .op (.mov), [.c (.int .i64 0)], none⟩]) (IC.block 0 (IC.loop (equalB sz sh K d)))) (IC.seq (IC.reg [⟨some 4, .op (.mov), [.c (.bool true)], none⟩]) IC.ret))))

theorem equal_pc {P : Program} (hm : P.follows .mixedOrders = true) {hint : Nat → Nat} {f : FuncId} (L : El α) (d : Bool) (hf : compF P hint f = some ⟨equalC L.E.sz L.sh L.K d, 26, [.t 4]⟩) {l m : List α} (hl : l.length ≤ 4611686018427387904) (hm2 : m.length ≤ 4611686018427387904) : PCF P f [L.E.S l, L.E.S m] (.bool (decide (l = m))) := by
  refine pcf_e hm (TabOk.none _) hf (by cases d <;> rfl) (by simp) (nidL_ok (by simp only [nidL, Enc.S_nid, Bool.and_self])) ?_
  by_cases hlm : l.length = m.length
  · refine vcE.step (by simp only [exC, exOps, exOp, wantedE, ↓reduceIte, ROp.run, evsE, evE, putE]; rfl) (vcE.step (by simp (disch := first | assumption | omega) only [exC, exOps, exOp, wantedE, ↓reduceIte, ROp.run, evsE, evE, ty, reduceCtorEq, List.getD_cons_zero, putE, same, Option.map_some, Nat.reduceEqDiff, List.getD_cons_succ, binA, intA, dec_true]; rfl) (vcE.then (fun e tm hp => (e = .normal ∧ l = m) ∨ (e = .ret ∧ tm 4 = .bool false ∧ l ≠ m)) ?_ ?_))
    · refine vcE.step (by simp only [exC, exOps, exOp, wantedE, ↓reduceIte, ROp.run, evsE, evE, ty, reduceCtorEq, List.getD_cons_zero, putE, same, Option.map_some]; rfl) (vcE.block (vcE.count (by intro l tm hp h; simp at h)
        (fun i tm hp => tm 0 = L.E.S l ∧ tm 1 = L.E.S m ∧ tm 12 = .int .i64 l.length ∧ tm 13 = .int .i64 i ∧ l.take i = m.take i) l.length ⟨?_, ?_, ?_, ?_, ?_⟩ ?_ ?_))
      · rfl
      · rfl
      · rfl
      · rfl
      · simp
      · rintro i tm hp hi ⟨e0, e1, e12, e13, hE⟩
        obtain ⟨a, ha⟩ : ∃ a, l[i]? = some a := ⟨_, List.getElem?_eq_getElem hi⟩
        obtain ⟨b, hb⟩ : ∃ b, m[i]? = some b := ⟨_, List.getElem?_eq_getElem (by omega)⟩
        have hia : iaddrA L.E.sz (L.E.S l) (.int .i64 i) = some (.fptr (L.E.cs l) (i * L.E.sz)) := L.E.S_iaddr hi
        have hib : iaddrA L.E.sz (L.E.S m) (.int .i64 i) = some (.fptr (L.E.cs m) (i * L.E.sz)) := L.E.S_iaddr (by omega)
        have hp1 := L.pk ha
        have hp2 := L.pk hb
        have hne := L.ne a b
        by_cases hab : a = b
        · rw [decide_eq_true hab] at hne
          cases d
          all_goals refine vcE.ex (by simp (disch := first | assumption | omega) only [exC, exOps, exOp, wantedE, ↓reduceIte, ROp.run, evsE, evE, e13, e12, same, binA, intA, dec_true, Option.map_some, putE, ty, Nat.reduceEqDiff, regX_f, reduceCtorEq, e0, hia, loadA, rowA, ↓hp1, e1, hib, ↓hp2, ↓hne, cond_true, chain, ordered, List.getElem?_cons_zero, List.getElem?_cons_succ]; rfl) ?_
          all_goals refine ⟨?_, ?_, ?_, ?_, take_step hE ha (by rw [hab]; exact hb)⟩
          all_goals simp only [upd_app, Nat.reduceEqDiff, ↓reduceIte, e0, e1, e12]
          all_goals rfl
        · rw [decide_eq_false hab] at hne
          have hlm2 : l ≠ m := by
            rintro rfl
            rw [ha] at hb
            cases hb
            exact hab rfl
          cases d
          all_goals refine vcE.ex (by simp (disch := first | assumption | omega) only [exC, exOps, exOp, wantedE, ↓reduceIte, ROp.run, evsE, evE, e13, e12, same, binA, intA, dec_true, Option.map_some, putE, ty, Nat.reduceEqDiff, regX_f, reduceCtorEq, e0, hia, loadA, rowA, ↓hp1, e1, hib, ↓hp2, ↓hne, cond_true, chain, ordered, List.getElem?_cons_zero, List.getElem?_cons_succ]; rfl) ?_
          all_goals refine .inr ⟨rfl, ?_, hlm2⟩
          all_goals simp only [upd_app, Nat.reduceEqDiff, ↓reduceIte]
      · rintro tm hp ⟨e0, e1, e12, e13, hE⟩
        refine vcE.ex (by simp (disch := omega) only [exC, exOps, exOp, wantedE, ↓reduceIte, ROp.run, evsE, evE, e13, e12, same, binA, intA, dec_false, Option.map_some, putE, ty]; rfl) ?_
        refine .inl ⟨rfl, ?_⟩
        rw [List.take_length, hlm, List.take_length] at hE
        exact hE
    · rintro e tm hp (⟨rfl, h⟩ | ⟨rfl, h4, h⟩)
      · refine vcE.ex (by simp only [exC, exOps, exOp, wantedE, ↓reduceIte, ROp.run, evsE, evE, putE]; rfl) ?_
        refine ⟨_, rfl, ?_⟩
        rw [decide_eq_true h]
        rfl
      · refine ⟨_, rfl, ?_⟩
        rw [h4, decide_eq_false h]
        rfl
  · have hlm' : ¬ ((l.length : Int) = m.length) := by omega
    refine vcE.ex (by simp (disch := first | assumption | omega) only [exC, exOps, exOp, wantedE, ↓reduceIte, ROp.run, evsE, evE, putE, ty, reduceCtorEq, List.getD_cons_zero, same, Option.map_some, Nat.reduceEqDiff, List.getD_cons_succ, binA, intA, dec_false]; rfl) ?_
    refine ⟨_, rfl, ?_⟩
    rw [decide_eq_false (fun e => hlm (by rw [e]))]
    rfl

abbrev sameLB (sz : Nat) (sh : Option Nat) (K : EqK) (d : Bool) : IC := (IC.seq (IC.seq (IC.reg [⟨some 11, .op (.mov), [.t 5], none⟩,
  ⟨some 12, .op (.mov), [.t 0], none⟩,
  ⟨some 13, .op (.len .slice), [.t 12], none⟩,
  ⟨some 14, .op (.bin .lss .prim), [.t 11, .t 13], none⟩]) (IC.cond (.t 14) IC.skip (IC.exit 0))) (IC.seq (IC.block 1 (IC.seq (regX d (.take 0 (.take 1 (.take 2 (.take 3 (.take 4 (.take 5 (.take 6 (.take 7 (.take 8 (.done)))))))))) [⟨some 17, .op (.mov), [.t 0], none⟩,
  ⟨some 18, .op (.mov), [.t 5], none⟩,
  ⟨some 19, .op (.iaddr sz), [.t 17, .t 18], none⟩,
  ⟨some 20, .op (.load sh), [.t 19], none⟩,
  ⟨some 21, .op (.mov), [.t 1], none⟩,
  ⟨some 22, .op (.mov), [.t 5], none⟩,
  ⟨some 23, .op (.iaddr sz), [.t 21, .t 22], none⟩,
  ⟨some 24, .op (.load sh), [.t 23], none⟩,
  ⟨some 25, .op (.bin .neq K), [.t 20, .t 24], none⟩]) (IC.cond (.t 25) (IC.seq (IC.reg [⟨some 4, .op (.mov), [.c (.bool false)], none⟩]) IC.ret) IC.skip))) (IC.reg [⟨some 15, .op (.mov), [.t 5], none⟩,
  ⟨some 16, .op (.bin .add .prim), [.t 15, .c (.int .i64 1)], none⟩,
  ⟨some 5, .op (.mov), [.t 16], none⟩])))
abbrev sameLC (sz : Nat) (sh : Option Nat) (K : EqK) (d : Bool) : IC := (IC.seq (IC.reg [⟨some 4, .op (.mov), [.c (.bool false)], none⟩]) (IC.seq (IC.seq (IC.reg [⟨some 6, .op (.mov), [.t 0], none⟩,
  ⟨some 7, .op (.len .slice), [.t 6], none⟩,
  ⟨some 8, .op (.mov), [.t 1], none⟩,
  ⟨some 9, .op (.len .slice), [.t 8], none⟩,
  ⟨some 10, .op (.bin .neq .prim), [.t 7, .t 9], none⟩]) (IC.cond (.t 10) (IC.seq (IC.reg [⟨some 4, .op (.mov), [.c (.bool false)], none⟩]) IC.ret) IC.skip)) (IC.seq (IC.seq (IC.reg [⟨some 5, .op (.mov), [.c (.int .i64 0)], none⟩]) (IC.block 0 (IC.loop (sameLB sz sh K d)))) (IC.seq (IC.reg [⟨some 4, .op (.mov), [.c (.bool true)], none⟩]) IC.ret))))
theorem same_pc {P : Program} (hm : P.follows .mixedOrders = true) {hint : Nat → Nat} {f : FuncId} (L : El α) (d : Bool) (hf : compF P hint f = some ⟨sameLC L.E.sz L.sh L.K d, 26, [.t 4]⟩) {l m : List α} (hl : l.length ≤ 4611686018427387904) : PCF P f [L.E.S l, L.E.S m] (.bool (decide (l = m))) := by
  refine pcf_e hm (TabOk.none _) hf (by cases d <;> rfl) (by simp) (nidL_ok (by simp only [nidL, Enc.S_nid, Bool.and_self])) ?_
  by_cases hlm : l.length = m.length
  · refine vcE.step (by simp only [exC, exOps, exOp, wantedE, ↓reduceIte, ROp.run, evsE, evE, putE]; rfl) (vcE.step (by simp (disch := first | assumption | omega) only [exC, exOps, exOp, wantedE, ↓reduceIte, ROp.run, evsE, evE, ty, reduceCtorEq, List.getD_cons_zero, putE, same, Option.map_some, Nat.reduceEqDiff, List.getD_cons_succ, binA, intA, dec_true]; rfl) (vcE.then (fun e tm hp => (e = .normal ∧ l = m) ∨ (e = .ret ∧ tm 4 = .bool false ∧ l ≠ m)) ?_ ?_))
    · refine vcE.step (by simp only [exC, exOps, exOp, wantedE, ↓reduceIte, ROp.run, evsE, evE, putE]; rfl) (vcE.block (vcE.count (by intro l tm hp h; simp at h)
        (fun i tm hp => tm 0 = L.E.S l ∧ tm 1 = L.E.S m ∧ tm 5 = .int .i64 i ∧ l.take i = m.take i) l.length ⟨?_, ?_, ?_, ?_⟩ ?_ ?_))
      · rfl
      · rfl
      · rfl
      · simp
      · rintro i tm hp hi ⟨e0, e1, e5, hE⟩
        obtain ⟨a, ha⟩ : ∃ a, l[i]? = some a := ⟨_, List.getElem?_eq_getElem hi⟩
        obtain ⟨b, hb⟩ : ∃ b, m[i]? = some b := ⟨_, List.getElem?_eq_getElem (by omega)⟩
        have hia : iaddrA L.E.sz (L.E.S l) (.int .i64 i) = some (.fptr (L.E.cs l) (i * L.E.sz)) := L.E.S_iaddr hi
        have hib : iaddrA L.E.sz (L.E.S m) (.int .i64 i) = some (.fptr (L.E.cs m) (i * L.E.sz)) := L.E.S_iaddr (by omega)
        have hp1 := L.pk ha
        have hp2 := L.pk hb
        have hne := L.ne a b
        by_cases hab : a = b
        · rw [decide_eq_true hab] at hne
          cases d
          all_goals refine vcE.ex (by simp (disch := first | assumption | omega) only [exC, exOps, exOp, wantedE, ↓reduceIte, ROp.run, evsE, evE, e5, putE, ty, reduceCtorEq, e0, same, Option.map_some, Nat.reduceEqDiff, binA, intA, dec_true, regX_f, hia, loadA, rowA, ↓hp1, e1, hib, ↓hp2, ↓hne, cond_true, chain, ordered, List.getElem?_cons_zero, List.getElem?_cons_succ]; rfl) ?_
          all_goals refine ⟨?_, ?_, ?_, take_step hE ha (by rw [hab]; exact hb)⟩
          all_goals simp only [upd_app, Nat.reduceEqDiff, ↓reduceIte, e0, e1]
          all_goals rfl
        · rw [decide_eq_false hab] at hne
          have hlm2 : l ≠ m := by
            rintro rfl
            rw [ha] at hb
            cases hb
            exact hab rfl
          cases d
          all_goals refine vcE.ex (by simp (disch := first | assumption | omega) only [exC, exOps, exOp, wantedE, ↓reduceIte, ROp.run, evsE, evE, e5, putE, ty, reduceCtorEq, e0, same, Option.map_some, Nat.reduceEqDiff, binA, intA, dec_true, regX_f, hia, loadA, rowA, ↓hp1, e1, hib, ↓hp2, ↓hne, cond_true, chain, ordered, List.getElem?_cons_zero, List.getElem?_cons_succ]; rfl) ?_
          all_goals refine .inr ⟨rfl, ?_, hlm2⟩
          all_goals simp only [upd_app, Nat.reduceEqDiff, ↓reduceIte]
      · rintro tm hp ⟨e0, e1, e5, hE⟩
        refine vcE.ex (by simp (disch := omega) only [exC, exOps, exOp, wantedE, ↓reduceIte, ROp.run, evsE, evE, e5, putE, ty, reduceCtorEq, e0, same, Option.map_some, Nat.reduceEqDiff, binA, intA, dec_false]; rfl) ?_
        refine .inl ⟨rfl, ?_⟩
        rw [List.take_length, hlm, List.take_length] at hE
        exact hE
    · rintro e tm hp (⟨rfl, h⟩ | ⟨rfl, h4, h⟩)
      · refine vcE.ex (by simp only [exC, exOps, exOp, wantedE, ↓reduceIte, ROp.run, evsE, evE, putE]; rfl) ?_
        refine ⟨_, rfl, ?_⟩
        rw [decide_eq_true h]
        rfl
      · refine ⟨_, rfl, ?_⟩
        rw [h4, decide_eq_false h]
        rfl
  · have hlm' : ¬ ((l.length : Int) = m.length) := by omega
    refine vcE.ex (by simp (disch := first | assumption | omega) only [exC, exOps, exOp, wantedE, ↓reduceIte, ROp.run, evsE, evE, putE, ty, reduceCtorEq, List.getD_cons_zero, same, Option.map_some, Nat.reduceEqDiff, List.getD_cons_succ, binA, intA, dec_false]; rfl) ?_
    refine ⟨_, rfl, ?_⟩
    rw [decide_eq_false (fun e => hlm (by rw [e]))]
    rfl

/-! ### slices.Index, of elements of one cell and of structs; Contains; ContainsFunc -/
abbrev index2B (sz : Nat) (sh : Option Nat) (K : EqK) (d : Bool) (o : IOp) : IC := (IC.seq (IC.reg [⟨some 9, .op (.bin .lss .prim), [.t 8, .t 7], none⟩]) (IC.seq (IC.cond (.t 9) IC.skip (IC.exit 0)) (IC.seq (IC.block 1 (IC.seq (IC.reg [⟨some 10, .op (.mov), [.t 8], none⟩, ⟨some 5, .op (.mov), [.t 10], none⟩]) (IC.seq (regX d (.take 0 (.take 1 (.take 2 (.take 3 (.take 4 (.take 5 (.done))))))) [o,
  ⟨some 12, .op (.mov), [.t 0], none⟩,
  ⟨some 13, .op (.mov), [.t 5], none⟩,
  ⟨some 14, .op (.iaddr sz), [.t 12, .t 13], none⟩,
  ⟨some 15, .op (.load sh), [.t 14], none⟩,
  ⟨some 16, .op (.bin .eql K), [.t 11, .t 15], none⟩]) (IC.cond (.t 16) (IC.seq (IC.reg [⟨some 17, .op (.mov), [.t 5], none⟩, ⟨some 4, .op (.mov), [.t 17], none⟩]) IC.ret) IC.skip)))) (IC.reg [⟨some 18, .op (.bin .add .prim), [.t 8, .c (.int .i64 1)], none⟩, ⟨some 8, .op (.mov), [.t 18], none⟩]))))
abbrev index2C (sz : Nat) (sh : Option Nat) (K : EqK) (d : Bool) (is : List IOp) (o : IOp) : IC := (IC.seq (IC.reg is) (IC.seq (IC.seq (IC.reg [⟨some 6, .op (.mov), [.t 0], none⟩,
  ⟨some 7, .op (.len .slice), [.t 6], none⟩,
  ⟨some 8, .op (.mov), [.c (.int .i64 0)], none⟩]) (IC.block 0 (IC.loop (index2B sz sh K d o)))) (IC.seq (IC.reg [⟨some 4, .op (.mov), [.c (.int .i64 (-1))], none⟩]) IC.ret)))

theorem index2_main {P : Program} {hint : Nat → Nat} (L : El α) (d : Bool) {is : List IOp} {o : IOp} {l : List α} {x : α} (hl : l.length ≤ 4611686018427387904) {tm0 : Env} {hp0 : HP} (st : Env → Prop) (hst : ∀ tm, (∀ i, i < 4 → tm i = tm0 i) → st tm) (h0 : tm0 0 = L.E.S l)
    (hinit : exOps .wild Tab.none is (start [L.E.S l, L.v x]) [] = some (tm0, hp0)) (ho : ∀ tm, st tm → exOp .wild Tab.none o tm hp0 = some (upd tm 11 (L.v x), hp0)) :
    vcE P hint Tab.none 19 (index2C L.E.sz L.sh L.K d is o) (start [L.E.S l, L.v x]) [] (RetE [.t 4] fun r' hp' => fresh hp' r' = some (.int .i64 (idx (fun a => decide (x = a)) l))) := by
  refine vcE.step (tm' := tm0) (hp' := hp0) (by simp only [exC, hinit]) (vcE.then (fun e tm hp => hp = hp0 ∧ ((e = .normal ∧ idx (fun a => decide (x = a)) l = -1) ∨ (e = .ret ∧ tm 4 = .int .i64 (idx (fun a => decide (x = a)) l)))) ?_ ?_)
  · refine vcE.step (by simp (disch := omega) only [exC, exOps, exOp, wantedE, ↓reduceIte, ROp.run, evsE, evE, h0, putE, ty, same, Option.map_some]; rfl) (vcE.block (vcE.count (by intro l tm hp h; simp at h)
      (fun i tm hp => hp = hp0 ∧ (∀ k, k < 4 → tm k = tm0 k) ∧ tm 7 = .int .i64 l.length ∧ tm 8 = .int .i64 i ∧ ∀ j, j < i → ∀ b, l[j]? = some b → decide (x = b) = false) l.length ⟨rfl, ?_, ?_, ?_, by omega⟩ ?_ ?_))
    · intro k hk
      simp only [upd_app]
      rw [if_neg (by omega), if_neg (by omega), if_neg (by omega)]
    · rfl
    · rfl
    · rintro i tm hp hi ⟨rfl, ek, e7, e8, hb⟩
      have e0 : tm 0 = L.E.S l := (ek 0 (by omega)).trans h0
      obtain ⟨a, ha⟩ : ∃ a, l[i]? = some a := ⟨_, List.getElem?_eq_getElem hi⟩
      have hia : iaddrA L.E.sz (L.E.S l) (.int .i64 i) = some (.fptr (L.E.cs l) (i * L.E.sz)) := L.E.S_iaddr hi
      have hpick := L.pk ha
      have heq := L.eq x a
      have ho' := fun (tm2 : Env) (h : ∀ k, k < 4 → tm2 k = tm k) => ho tm2 (hst tm2 fun k hk => (h k hk).trans (ek k hk))
      have hod : ∀ v w u, exOp .wild Tab.none o (upd (upd (upd tm 9 v) 10 w) 5 u) hp = some (upd (upd (upd (upd tm 9 v) 10 w) 5 u) 11 (L.v x), hp) := fun v w u => ho' _ fun k hk => by
        simp only [upd_app]
        rw [if_neg (by omega), if_neg (by omega), if_neg (by omega)]
      by_cases hxa : x = a
      · rw [decide_eq_true hxa] at heq
        have hidx : idx (fun a => decide (x = a)) l = i := idx_some ha (decide_eq_true hxa) hb
        cases d
        all_goals refine vcE.ex (by simp (disch := omega) only [exC, exOps, exOp, wantedE, ↓reduceIte, ROp.run, evsE, evE, e8, e7, same, binA, intA, dec_true, Option.map_some, putE, ty, Nat.reduceEqDiff, regX_f, ↓hod, reduceCtorEq, e0, hia, loadA, rowA, ↓hpick, ↓heq, cond_true, chain, ordered, List.getElem?_cons_zero, List.getElem?_cons_succ]; rfl) ?_
        all_goals refine ⟨rfl, .inr ⟨rfl, ?_⟩⟩
        all_goals rw [hidx]
        all_goals simp only [upd_app, Nat.reduceEqDiff, ↓reduceIte]
      · rw [decide_eq_false hxa] at heq
        cases d
        all_goals refine vcE.ex (by simp (disch := omega) only [exC, exOps, exOp, wantedE, ↓reduceIte, ROp.run, evsE, evE, e8, e7, same, binA, intA, dec_true, Option.map_some, putE, ty, Nat.reduceEqDiff, regX_f, ↓hod, reduceCtorEq, e0, hia, loadA, rowA, ↓hpick, ↓heq, cond_true, chain, ordered, List.getElem?_cons_zero, List.getElem?_cons_succ]; rfl) ?_
        all_goals
          refine ⟨rfl, fun k hk => ?_, ?_, ?_, fun j hj b hb' => ?_⟩
          · simp only [upd_app]
            repeat rw [if_neg (by omega)]
            exact ek k hk
          · simp only [upd_app, Nat.reduceEqDiff, ↓reduceIte, e7]
          · simp only [upd_app, Nat.reduceEqDiff, ↓reduceIte]; rfl
          · by_cases hji : j = i
            · subst hji
              rw [ha] at hb'
              cases hb'
              exact decide_eq_false hxa
            · exact hb j (by omega) b hb'
    · rintro tm hp ⟨rfl, ek, e7, e8, hb⟩
      refine vcE.ex (by simp (disch := omega) only [exC, exOps, exOp, wantedE, ↓reduceIte, ROp.run, evsE, evE, e8, e7, same, binA, intA, dec_false, Option.map_some, putE, ty]; rfl) ?_
      exact ⟨rfl, .inl ⟨rfl, idx_none hb⟩⟩
  · rintro e tm hp ⟨rfl, ⟨rfl, h⟩ | ⟨rfl, h⟩⟩
    · refine vcE.ex (by simp only [exC, exOps, exOp, wantedE, ↓reduceIte, ROp.run, evsE, evE, putE]; rfl) ?_
      refine ⟨_, rfl, ?_⟩
      simp only [upd_app, Nat.reduceEqDiff, ↓reduceIte, h]
      rfl
    · refine ⟨_, rfl, ?_⟩
      rw [h]
      rfl
theorem index1_pc {P : Program} (hm : P.follows .mixedOrders = true) {hint : Nat → Nat} {f : FuncId} (L : El α) (d : Bool) (hf : compF P hint f = some ⟨index2C L.E.sz L.sh L.K d [⟨some 4, .op (.mov), [.c (.int .i64 0)], none⟩] ⟨some 11, .op (.mov), [.t 1], none⟩, 19, [.t 4]⟩) {l : List α} {x : α} (hl : l.length ≤ 4611686018427387904) : PCF P f [L.E.S l, L.v x] (.int .i64 (idx (fun a => decide (x = a)) l)) := by
  refine pcf_e hm (TabOk.none _) hf (by cases d <;> rfl) (by simp) (nidL_ok (by simp only [nidL, Enc.S_nid, L.nv, Bool.and_self])) ?_
  refine index2_main L d hl (tm0 := upd (start [L.E.S l, L.v x]) 4 (.int .i64 0)) (hp0 := []) (fun tm => tm 1 = L.v x) (fun tm h => (h 1 (by omega)).trans rfl) rfl (by simp only [exOps, exOp, wantedE, ↓reduceIte, ROp.run, evsE, evE, putE]) fun tm h => by simp only [exOp, wantedE, ↓reduceIte, ROp.run, evsE, evE, h, putE]
theorem indexS_pc {P : Program} (hm : P.follows .mixedOrders = true) {hint : Nat → Nat} {f : FuncId} (L : El α) (e : TypeId) (d : Bool) (hsh : L.sh = some L.E.sz) (hf : compF P hint f = some ⟨index2C L.E.sz L.sh L.K d [⟨some 3, .op (.box e), [.t 1], none⟩, ⟨some 4, .op (.mov), [.c (.int .i64 0)], none⟩] ⟨some 11, .op (.load (some L.E.sz)), [.t 3], none⟩, 19, [.t 4]⟩) {l : List α} {x : α} (hl : l.length ≤ 4611686018427387904) : PCF P f [L.E.S l, L.v x] (.int .i64 (idx (fun a => decide (x = a)) l)) := by
  refine pcf_e hm (TabOk.none _) hf (by cases d <;> rfl) (by simp) (nidL_ok (by simp only [nidL, Enc.S_nid, L.nv, Bool.and_self])) ?_
  have hpk : pickA (some L.E.sz) (L.E.c x) 0 = some (L.v x) := by
    have := L.pk (l := [x]) (i := 0) rfl
    rw [hsh] at this
    simpa [Enc.cs] using this
  refine index2_main L d hl (tm0 := upd (upd (start [L.E.S l, L.v x]) 3 (.ptr 0 0)) 4 (.int .i64 0)) (hp0 := [some (.row e (L.E.c x))]) (fun tm => tm 3 = .ptr 0 0) (fun tm h => (h 3 (by omega)).trans rfl) rfl (by simp only [exOps, exOp, wantedE, ↓reduceIte, ROp.run, evsE, evE, ty, List.getD_cons_succ, List.getD_cons_zero, L.nt, List.length_nil, L.ce, List.nil_append, putE]) fun tm h => by simp only [exOp, wantedE, ↓reduceIte, ROp.run, evsE, evE, h, same, loadA, rowA, List.getElem?_cons_zero, ↓hpk, Option.map_some, putE]
abbrev containsC (f : FuncId) : IC := (IC.seq (IC.reg [⟨some 4, .op (.mov), [.c (.bool false)], none⟩]) (IC.seq (IC.reg [⟨some 5, .op (.mov), [.t 0], none⟩,
  ⟨some 6, .op (.mov), [.t 1], none⟩,
  ⟨some 7, .call none, [.f f, .t 5, .t 6], none⟩,
  ⟨some 8, .op (.bin .geq .prim), [.t 7, .c (.int .i64 0)], none⟩,
  ⟨some 4, .op (.mov), [.t 8], none⟩]) IC.ret))
abbrev containsSC (e : TypeId) (sz : Nat) (f : FuncId) : IC := (IC.seq (IC.reg [⟨some 3, .op (.box e), [.t 1], none⟩, ⟨some 4, .op (.mov), [.c (.bool false)], none⟩]) (IC.seq (IC.reg [⟨some 5, .op (.mov), [.t 0], none⟩,
  ⟨some 6, .op (.load (some sz)), [.t 3], none⟩,
  ⟨some 7, .call none, [.f f, .t 5, .t 6], none⟩,
  ⟨some 8, .op (.bin .geq .prim), [.t 7, .c (.int .i64 0)], none⟩,
  ⟨some 4, .op (.mov), [.t 8], none⟩]) IC.ret))
theorem idx_ge (p : α → Bool) (l : List α) : decide (idx p l ≥ 0) = l.any p := by
  unfold idx
  cases h : l.findIdx? p with
  | none =>
    rw [List.findIdx?_eq_none_iff] at h
    have : l.any p = false := by
      rw [List.any_eq_false]
      intro x hx
      simp [h x hx]
    rw [this]
    rfl
  | some i =>
    rw [List.findIdx?_eq_some_iff_getElem] at h
    obtain ⟨h1, h2, _⟩ := h
    have : l.any p = true := List.any_eq_true.2 ⟨_, List.getElem_mem h1, h2⟩
    rw [this]
    simp
theorem any_mem (l : List α) (x : α) : l.any (fun a => decide (x = a)) = decide (x ∈ l) := by
  rw [Bool.eq_iff_iff, List.any_eq_true, decide_eq_true_eq]
  constructor
  · rintro ⟨a, h1, h2⟩
    rw [of_decide_eq_true h2]
    exact h1
  · exact fun h => ⟨x, h, decide_eq_true rfl⟩
theorem contains_pc {P : Program} (hm : P.follows .mixedOrders = true) {T : Tab} (hT : TabOk P T) {hint : Nat → Nat} {f g : FuncId} (hf : compF P hint f = some ⟨containsC g, 9, [.t 4]⟩) {x y : AV} (hx : nid x = true) (hy : nid y = true) (hfx : frz [] x = some x) (hfy : frz [] y = some y) {b : Bool} {n : Int} (hg : T g [x, y] = some (.rd b (.int .i64 n))) : PCF P f [x, y] (.bool (decide (n ≥ 0))) := by
  refine pcf_e hm hT hf (by rfl) (by simp) (nidL_ok (by simp only [nidL, hx, hy, Bool.and_self])) ?_
  refine vcE.ex (by simp (disch := omega) only [exC, exOps, exOp, wantedE, ↓reduceIte, ROp.run, evsE, evE, putE, ty, reduceCtorEq, List.getD_cons_zero, Nat.reduceEqDiff, List.getD_cons_succ, List.append_nil, frzL, hfx, hfy, hg, Cls.isFree, callCls, nidL, hx, hy, same, binA, intA, ge_iff_le, Option.map_some]; rfl) ?_
  exact ⟨_, rfl, rfl⟩
theorem containsS_pc {P : Program} (hm : P.follows .mixedOrders = true) {T : Tab} (hT : TabOk P T) {hint : Nat → Nat} {f g : FuncId} (L : El α) {e : TypeId} (hsh : L.sh = some L.E.sz) (hf : compF P hint f = some ⟨containsSC e L.E.sz g, 9, [.t 4]⟩) {x : AV} {y : α} (hn : nid x = true) (hfz : ∀ hp, frz hp x = some x) {b : Bool} {n : Int} (hg : T g [x, L.v y] = some (.rd b (.int .i64 n))) : PCF P f [x, L.v y] (.bool (decide (n ≥ 0))) := by
  have hny := L.nv y
  refine pcf_e hm hT hf (by rfl) (by simp) (nidL_ok (by simp only [nidL, hn, hny, Bool.and_self])) ?_
  have hpk : pickA (some L.E.sz) (L.E.c y) 0 = some (L.v y) := by
    have := L.pk (l := [y]) (i := 0) rfl
    rw [hsh] at this
    simpa [Enc.cs] using this
  refine vcE.ex (by simp (disch := omega) only [exC, exOps, exOp, wantedE, ↓reduceIte, ROp.run, evsE, evE, ty, List.getD_cons_succ, List.getD_cons_zero, L.nt, List.length_nil, L.ce, List.nil_append, putE, reduceCtorEq, Nat.reduceEqDiff, same, loadA, rowA, List.getElem?_cons_zero, ↓hpk, Option.map_some, List.append_nil, frzL, hfz, L.fz, hg, Cls.isFree, callCls, nidL, hn, hny, binA, intA, ge_iff_le]; rfl) ?_
  exact ⟨_, rfl, rfl⟩

end Go.Gi
