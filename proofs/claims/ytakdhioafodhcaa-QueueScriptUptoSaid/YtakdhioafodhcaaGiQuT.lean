/- Queues: the laws' own functions: copies, what is gone through, a call. -/
import Derived.Test.YtakdhioafodhcaaGiQuN
import Derived.Test.YtakdhioafodhcaaGiQuS
set_option linter.unusedVariables false
set_option linter.unusedSimpArgs false
namespace Go.Gi
open Go Go.Proofs

def Call.c (x : Call) : List AV := [.int .i64 x.kind, .int .i64 x.a.kind, .str x.a.room, .str x.a.sub, .str x.a.reason, .str x.a.deny, .int .i64 x.txn, .int .i64 x.n, .bool x.ok, encA.S x.keep]
def encC : Enc Call where
  c := Call.c
  sz := 10
  pos := by omega
  len _ := rfl
  nd x := by simp only [Call.c, nidL, nid, Enc.S_nid, Bool.and_self]
  ip := false
  pl h := by cases h
  fz hp x := by simp only [Call.c, frzL, frz, Enc.S_frz]
  dec := fun
    | [.int .i64 k, .int .i64 k2, .str r, .str s, .str t, .str d, .int .i64 x, .int .i64 n, .bool b, y] => match encA.un y with
      | some l => some ⟨k, ⟨k2, r, s, t, d⟩, x, n, b, l⟩
      | none => none
    | _ => none
  dec_c x := by simp only [Call.c, encA.un_S]
  dec_some cs a h := by
    split at h
    · split at h
      · rename_i hl; cases h; rw [encA.un_some hl]; rfl
      · cases h
    · cases h

theorem pOwnA {l : List Act} (h : l.length ≤ most) : PCF Try.prog 24 [encA.S l] (encA.S l) := by
  simp only [most] at h
  refine pcf_of (nidL_ok (by simp only [nidL, Enc.S_nid, Bool.and_self])) ((own_calls hmG encA comp24 (l := l) (by omega) (by omega) []).mono ?_)
  rintro r hp' ⟨rfl, rfl⟩
  exact fresh_ok ((ownV_at encA [] 23 l).fresh)
theorem pOwnJ {l : List Job} (h : l.length ≤ most) : PCF Try.prog 70 [encJ.S l] (encJ.S l) := by
  simp only [most] at h
  refine pcf_of (nidL_ok (by simp only [nidL, Enc.S_nid, Bool.and_self])) ((own_calls hmG encJ comp70 (l := l) (by omega) (by omega) []).mono ?_)
  rintro r hp' ⟨rfl, rfl⟩
  exact fresh_ok ((ownV_at encJ [] 42 l).fresh)

def T8 : Tab := (((((T7.addO 24 (.cons (.S encA) .nil) fun p => if p.1.length ≤ most then some (.rd true (encA.S p.1)) else none).addO 70 (.cons (.S encJ) .nil) fun p => if p.1.length ≤ most then some (.rd true (encJ.S p.1)) else none).addO
  69 (.cons .que (.cons (.S encA) .nil)) fun p => if Fits p.1 ∧ p.2.1.length ≤ most then some (.rd true (.tup [.agg (p.1.withdraw p.2.1).1.c, encJ.S (p.1.withdraw p.2.1).2])) else none).addO 55 (.cons .que .nil) fun p => if Fits p.1 then some (.rd true (.agg p.1.land.c)) else none).addO
  27 (.cons .que .nil) fun p => if Fits p.1 then some (.rd true (.int .i64 p.1.check)) else none).addO 28 (.cons .que (.cons .que .nil)) fun p => if Fits p.1 ∧ Fits p.2.1 then some (.rd true (.bool (decide (p.1 = p.2.1)))) else none
theorem T8_ok : TabOk Try.prog T8 := by
  refine TabOk.addO (TabOk.addO (TabOk.addO (TabOk.addO (TabOk.addO (TabOk.addO T7_ok ?_) ?_) ?_) ?_) ?_) ?_
  · intro p r h
    split at h
    · rename_i hv; cases h; exact pOwnA hv
    · cases h
  · intro p r h
    split at h
    · rename_i hv; cases h; exact pOwnJ hv
    · cases h
  · intro p r h
    split at h
    · rename_i hv; cases h; exact pWithdraw p.1 hv.1 _ hv.2
    · cases h
  · intro p r h
    split at h
    · rename_i hv; cases h; exact pLand p.1 hv
    · cases h
  · intro p r h
    split at h
    · rename_i hv; cases h; exact pCheck p.1 hv
    · cases h
  · intro p r h
    split at h
    · rename_i hv; cases h; exact pSame p.1 p.2.1 hv.1 hv.2
    · cases h
theorem T8_same {a b : Que} (h : Fits a) (h2 : Fits b) : T8 28 [.agg a.c, .agg b.c] = some (.rd true (.bool (decide (a = b)))) :=
  (Tab.addO_self _ _ (.cons .que (.cons .que .nil)) _ (a, b, ())).trans (if_pos ⟨h, h2⟩)
theorem T8_check {a : Que} (h : Fits a) : T8 27 [.agg a.c] = some (.rd true (.int .i64 a.check)) := by
  rw [T8, Tab.addO_ne _ _ _ _ rfl]
  exact (Tab.addO_self _ _ (.cons .que .nil) _ (a, ())).trans (if_pos h)
theorem T8_land {a : Que} (h : Fits a) : T8 55 [.agg a.c] = some (.rd true (.agg a.land.c)) := by
  rw [T8, Tab.addO_ne _ _ _ _ rfl, Tab.addO_ne _ _ _ _ rfl]
  exact (Tab.addO_self _ _ (.cons .que .nil) _ (a, ())).trans (if_pos h)
theorem T8_withdraw {a : Que} (h : Fits a) {l : List Act} (h2 : l.length ≤ most) : T8 69 [.agg a.c, encA.S l] = some (.rd true (.tup [.agg (a.withdraw l).1.c, encJ.S (a.withdraw l).2])) := by
  rw [T8, Tab.addO_ne _ _ _ _ rfl, Tab.addO_ne _ _ _ _ rfl, Tab.addO_ne _ _ _ _ rfl]
  exact (Tab.addO_self _ _ (.cons .que (.cons (.S encA) .nil)) _ (a, l, ())).trans (if_pos ⟨h, h2⟩)
theorem T8_ownJ {l : List Job} (h : l.length ≤ most) : T8 70 [encJ.S l] = some (.rd true (encJ.S l)) := by
  rw [T8, Tab.addO_ne _ _ _ _ rfl, Tab.addO_ne _ _ _ _ rfl, Tab.addO_ne _ _ _ _ rfl, Tab.addO_ne _ _ _ _ rfl]
  exact (Tab.addO_self _ _ (.cons (.S encJ) .nil) _ (l, ())).trans (if_pos h)
theorem T8_ownA {l : List Act} (h : l.length ≤ most) : T8 24 [encA.S l] = some (.rd true (encA.S l)) := by
  rw [T8, Tab.addO_ne _ _ _ _ rfl, Tab.addO_ne _ _ _ _ rfl, Tab.addO_ne _ _ _ _ rfl, Tab.addO_ne _ _ _ _ rfl, Tab.addO_ne _ _ _ _ rfl]
  exact (Tab.addO_self _ _ (.cons (.S encA) .nil) _ (l, ())).trans (if_pos h)
theorem T8_ne {g : FuncId} {xs : List AV} (h : (Nat.beq g 24 || Nat.beq g 70 || Nat.beq g 69 || Nat.beq g 55 || Nat.beq g 27 || Nat.beq g 28) = false) : T8 g xs = T7 g xs := by
  simp only [Bool.or_eq_false_iff] at h
  obtain ⟨⟨⟨⟨⟨h1, h2⟩, h3⟩, h4⟩, h5⟩, h6⟩ := h
  rw [T8, Tab.addO_ne _ _ _ _ h6, Tab.addO_ne _ _ _ _ h5, Tab.addO_ne _ _ _ _ h4, Tab.addO_ne _ _ _ _ h3, Tab.addO_ne _ _ _ _ h2, Tab.addO_ne _ _ _ _ h1]

theorem pOwn (q : Que) (hq : Fits q) : PC Try.prog 23 [.agg q.c] (.agg q.c) := by
  refine pc_e hmG T8_ok comp23 (by decide) (by simp) (nidL_ok (by simp only [nidL, queN, Bool.and_self])) ?_
  have hcl : True := trivial
  have e1 := T8_ownJ hq.j
  have e2 := T8_ownA hq.f
  have e3 := T8_ownA hq.s
  refine vcE.ex (by simp (disch := first | assumption | omega | with_unfolding_all rfl) only [exC, exOps, exOp, wantedE, ↓reduceIte, ROp.run, evsE, evE, Que.c, ty, List.getD_cons_zero, tz, List.length_nil, List.nil_append, putE, allocA, List.length_cons, List.cons_append, chain, ordered, List.getElem?_cons_zero, List.getElem?_cons_succ, Nat.reduceEqDiff, same, faddrA, Option.map_some, loadA, rowA, pickA, List.append_nil, frzL, e1, Cls.isFree, callCls, nidL, e2, e3, storeA_eq, Nat.reduceAdd, Nat.reduceLeDiff, dec_true, over, List.take_zero, List.drop_succ_cons, List.drop_zero, List.set_cons_zero, List.take_succ_cons, cond_true, List.drop_nil, List.set_cons_succ]; rfl) ?_
  refine ⟨_, rfl, ?_⟩
  simp only [frz_agg, Que.c, frzL, Enc.S_frz, tz, ty, List.take_succ_cons, List.take_zero, List.drop_zero, List.drop_succ_cons]

/-! ### What is gone through -/
def Call.light (x : Call) : Bool := x.a.light && (decide (x.keep.length ≤ 40) && x.keep.all Act.light)
def lightC (l : List Call) : Bool := l.all Call.light && decide (l.length ≤ 60)
theorem all_take_succ {α : Type} {p : α → Bool} {l : List α} {i : Nat} {a : α} (h : l[i]? = some a) : (l.take (i + 1)).all p = ((l.take i).all p && p a) := by
  rw [List.take_add_one, h, List.all_append]
  simp
theorem all_false {α : Type} {p : α → Bool} {l : List α} {i : Nat} {a : α} (h : l[i]? = some a) (hp : p a = false) : l.all p = false := by
  cases hl : l.all p
  · rfl
  · rw [List.all_eq_true] at hl
    rw [hl a (List.mem_of_getElem? h)] at hp
    cases hp
theorem T8_light (a : Act) : T8 11 [.agg a.c] = some (.rd true (.bool a.light)) := (T8_ne rfl).trans (T7_light a)
theorem encC_a {l : List Call} {i : Nat} {x : Call} (h : l[i]? = some x) : pickA (some 5) (encC.cs l) (i * 10 + 1) = some (.agg x.a.c) := by
  have := encC.pick_part h (sh := some 5) (o := 1) (by show 1 + 5 ≤ 10; omega)
  rw [show encC.sz = 10 from rfl] at this
  rw [this]
  rfl
theorem encC_keep {l : List Call} {i : Nat} {x : Call} (h : l[i]? = some x) : pickA none (encC.cs l) (i * 10 + 9) = some (encA.S x.keep) := by
  have := encC.pick_part h (sh := none) (o := 9) (by show 9 + 1 ≤ 10; omega)
  rw [show encC.sz = 10 from rfl] at this
  rw [this]
  rfl
theorem encC_kind {l : List Call} {i : Nat} {x : Call} (h : l[i]? = some x) : pickA none (encC.cs l) (i * 10) = some (.int .i64 x.kind) := by
  have := encC.pick_part h (sh := none) (o := 0) (by show 0 + 1 ≤ 10; omega)
  rw [show encC.sz = 10 from rfl, Nat.add_zero] at this
  rw [this]
  rfl
theorem light_inner {hint : Nat → Nat} {l : List Call} {i : Nat} {x : Call} (hx : l[i]? = some x) (hk : x.keep.length ≤ 40) {tm : Env} {hp : HP} (t0 : tm 0 = encC.S l) (t3 : tm 3 = .int .i64 i) (hl : l.length ≤ 4611686018427387904) :
    vcE Try.prog hint T8 50 (IC.seq (IC.reg r21_5) (IC.block 2 (IC.loop b21_0))) tm hp fun e tm' hp' => (x.keep.all Act.light = false ∧ e = .ret ∧ tm' 2 = .bool false) ∨ (x.keep.all Act.light = true ∧ e = .normal ∧ tm' 0 = encC.S l ∧ tm' 3 = .int .i64 i) := by
  have hi := (List.getElem?_eq_some_iff.1 hx).1
  have hcl : True := trivial
  have hia : iaddrA 10 (encC.S l) (.int .i64 i) = some (.fptr (encC.cs l) (i * 10)) := encC.S_iaddr hi
  have hpk := encC_keep hx
  refine vcE.step (by simp (disch := first | assumption | omega | with_unfolding_all rfl) only [exC, exOps, exOp, wantedE, ↓reduceIte, ROp.run, evsE, evE, putE]; rfl) (vcE.block (vcE.count (by intro l tm hp h; simp at h) (fun k tm hp => tm 0 = encC.S l ∧ tm 3 = .int .i64 i ∧ tm 4 = .int .i64 k ∧ (x.keep.take k).all Act.light = true) x.keep.length ⟨?_, ?_, ?_, rfl⟩ ?_ ?_))
  · simp only [upd_app, Nat.reduceEqDiff, ↓reduceIte, t0]
  · simp only [upd_app, Nat.reduceEqDiff, ↓reduceIte, t3]
  · simp only [upd_app, Nat.reduceEqDiff, ↓reduceIte]; rfl
  · rintro k tm hp hk2 ⟨e0, e3, e4, hall⟩
    obtain ⟨a, ha⟩ : ∃ a, x.keep[k]? = some a := ⟨_, List.getElem?_eq_getElem hk2⟩
    have hka : iaddrA 5 (encA.S x.keep) (.int .i64 k) = some (.fptr (encA.cs x.keep) (k * 5)) := encA.S_iaddr hk2
    have hpa : pickA (some 5) (encA.cs x.keep) (k * 5) = some (.agg a.c) := encA.pick ha
    have hli := T8_light a
    cases hal : a.light <;> rw [hal] at hli
    · refine vcE.ex (by simp (disch := first | assumption | omega | with_unfolding_all rfl) only [exC, exOps, exOp, wantedE, ↓reduceIte, ROp.run, evsE, evE, e4, putE, ty, reduceCtorEq, e0, Nat.reduceEqDiff, e3, same, hia, Option.map_some, faddrA, loadA, rowA, ↓hpk, binA, intA, dec_true, hka, ↓hpa, List.append_nil, frzL, frz_agg, actL_frz, hli, Cls.isFree, callCls, nidL, tz, actL_nid, unA]; rfl) ?_
      refine .inl ⟨all_false ha hal, rfl, ?_⟩
      simp only [upd_app, Nat.reduceEqDiff, ↓reduceIte]
    · refine vcE.ex (by simp (disch := first | assumption | omega | with_unfolding_all rfl) only [exC, exOps, exOp, wantedE, ↓reduceIte, ROp.run, evsE, evE, e4, putE, ty, reduceCtorEq, e0, Nat.reduceEqDiff, e3, same, hia, Option.map_some, faddrA, loadA, rowA, ↓hpk, binA, intA, dec_true, hka, ↓hpa, List.append_nil, frzL, frz_agg, actL_frz, hli, Cls.isFree, callCls, nidL, tz, actL_nid, unA]; rfl) ?_
      refine ⟨?_, ?_, ?_, by rw [all_take_succ ha, hall, hal]; rfl⟩
      · simp only [upd_app, Nat.reduceEqDiff, ↓reduceIte, e0]
      · simp only [upd_app, Nat.reduceEqDiff, ↓reduceIte, e3]
      · simp only [upd_app, Nat.reduceEqDiff, ↓reduceIte]; rfl
  · rintro tm hp ⟨e0, e3, e4, hall⟩
    refine vcE.ex (by simp (disch := first | assumption | omega | with_unfolding_all rfl) only [exC, exOps, exOp, wantedE, ↓reduceIte, ROp.run, evsE, evE, e4, putE, ty, reduceCtorEq, e0, Nat.reduceEqDiff, e3, same, hia, Option.map_some, faddrA, loadA, rowA, ↓hpk, binA, intA, dec_false]; rfl) ?_
    rw [List.take_length] at hall
    refine .inr ⟨hall, rfl, ?_, ?_⟩
    · simp only [upd_app, Nat.reduceEqDiff, ↓reduceIte, e0]
    · simp only [upd_app, Nat.reduceEqDiff, ↓reduceIte, e3]
theorem pLight (l : List Call) (hl : l.length ≤ 4611686018427387904) : PC Try.prog 21 [encC.S l] (.bool (lightC l)) := by
  refine pc_e hmG T8_ok comp21 (by decide) (by simp) (nidL_ok (by simp only [nidL, Enc.S_nid, Bool.and_self])) ?_
  have hcl : True := trivial
  have hg2 : ∀ x y : Int, (x > y) = (y < x) := fun _ _ => rfl
  refine vcE.step (by simp (disch := first | assumption | omega | with_unfolding_all rfl) only [exC, exOps, exOp, wantedE, ↓reduceIte, ROp.run, evsE, evE, putE]; rfl) (vcE.then (fun e tm hp => (e = .ret ∧ tm 2 = .bool false ∧ l.all Call.light = false) ∨ (e = .normal ∧ tm 0 = encC.S l ∧ l.all Call.light = true)) ?_ ?_)
  · refine vcE.step (by simp (disch := first | assumption | omega | with_unfolding_all rfl) only [exC, exOps, exOp, wantedE, ↓reduceIte, ROp.run, evsE, evE, putE]; rfl) (vcE.block (vcE.count (by intro l tm hp h; simp at h) (fun i tm hp => tm 0 = encC.S l ∧ tm 3 = .int .i64 i ∧ (l.take i).all Call.light = true) l.length ⟨rfl, rfl, rfl⟩ ?_ ?_))
    · rintro i tm hp hi ⟨e0, e3, hall⟩
      obtain ⟨x, hx⟩ : ∃ x, l[i]? = some x := ⟨_, List.getElem?_eq_getElem hi⟩
      have hia : iaddrA 10 (encC.S l) (.int .i64 i) = some (.fptr (encC.cs l) (i * 10)) := encC.S_iaddr hi
      have hpa := encC_a hx
      have hpk := encC_keep hx
      have hli := T8_light x.a
      refine vcE.step (by simp (disch := first | assumption | omega | with_unfolding_all rfl) only [exC, exOps, exOp, wantedE, ↓reduceIte, ROp.run, evsE, evE, e3, putE, ty, reduceCtorEq, e0, same, Option.map_some, Nat.reduceEqDiff, binA, intA, dec_true]; rfl) (vcE.seq (vcE.block ?_))
      cases hal : x.a.light <;> rw [hal] at hli
      · refine vcE.ex (by simp (disch := first | assumption | omega | with_unfolding_all rfl) only [exC, exOps, exOp, wantedE, ↓reduceIte, ROp.run, evsE, evE, ty, reduceCtorEq, e0, putE, Nat.reduceEqDiff, e3, same, hia, Option.map_some, faddrA, loadA, rowA, ↓hpa, List.append_nil, frzL, frz_agg, actL_frz, hli, Cls.isFree, callCls, nidL, tz, actL_nid, unA, beq_iff_eq]; rfl) ?_
        refine .inl ⟨rfl, ?_, all_false hx (by simp only [Call.light, hal, Bool.false_and])⟩
        simp only [upd_app, Nat.reduceEqDiff, ↓reduceIte]
      · by_cases hk : x.keep.length ≤ 40
        · refine vcE.step (by simp (disch := first | assumption | omega | with_unfolding_all rfl) only [exC, exOps, exOp, wantedE, ↓reduceIte, ROp.run, evsE, evE, ty, reduceCtorEq, e0, putE, Nat.reduceEqDiff, e3, same, hia, Option.map_some, faddrA, loadA, rowA, ↓hpa, List.append_nil, frzL, frz_agg, actL_frz, hli, Cls.isFree, callCls, nidL, tz, actL_nid, unA, beq_self_eq_true, ↓hpk, binA, intA, hg2, dec_false]; rfl) ((light_inner hx hk ?_ ?_ hl).mono ?_)
          · simp only [upd_app, Nat.reduceEqDiff, ↓reduceIte, e0]
          · simp only [upd_app, Nat.reduceEqDiff, ↓reduceIte, e3]
          · rintro e tm' hp' (⟨h, rfl, h2⟩ | ⟨h, rfl, h0, h3⟩)
            · refine .inl ⟨rfl, h2, all_false hx (by simp only [Call.light, h, Bool.and_false])⟩
            · refine vcE.ex (by simp (disch := first | assumption | omega | with_unfolding_all rfl) only [exC, exOps, exOp, wantedE, ↓reduceIte, ROp.run, evsE, evE, h3, putE, ty, same, binA, intA, Option.map_some]; rfl) ?_
              refine ⟨?_, ?_, by rw [all_take_succ hx, hall]; simp only [Call.light, hal, h, hk, decide_true, Bool.and_self]⟩
              · simp only [upd_app, Nat.reduceEqDiff, ↓reduceIte, h0]
              · simp only [upd_app, Nat.reduceEqDiff, ↓reduceIte]; rfl
        · refine vcE.ex (by simp (disch := first | assumption | omega | with_unfolding_all rfl) only [exC, exOps, exOp, wantedE, ↓reduceIte, ROp.run, evsE, evE, ty, reduceCtorEq, e0, putE, Nat.reduceEqDiff, e3, same, hia, Option.map_some, faddrA, loadA, rowA, ↓hpa, List.append_nil, frzL, frz_agg, actL_frz, hli, Cls.isFree, callCls, nidL, tz, actL_nid, unA, beq_self_eq_true, ↓hpk, binA, intA, hg2, dec_true]; rfl) ?_
          refine .inl ⟨rfl, ?_, all_false hx (by simp only [Call.light, hk, decide_false, Bool.false_and, Bool.and_false])⟩
          simp only [upd_app, Nat.reduceEqDiff, ↓reduceIte]
    · rintro tm hp ⟨e0, e3, hall⟩
      rw [List.take_length] at hall
      refine vcE.ex (by simp (disch := first | assumption | omega | with_unfolding_all rfl) only [exC, exOps, exOp, wantedE, ↓reduceIte, ROp.run, evsE, evE, e3, putE, ty, reduceCtorEq, e0, same, Option.map_some, Nat.reduceEqDiff, binA, intA, dec_false]; rfl) ?_
      refine .inr ⟨rfl, ?_, hall⟩
      simp only [upd_app, Nat.reduceEqDiff, ↓reduceIte, e0]
  · rintro e tm hp (⟨rfl, h2, h⟩ | ⟨rfl, h0, h⟩)
    · refine ⟨_, by simp only [resE, resEL, resE1, h2]; rfl, ?_⟩
      rw [lightC, h]
      rfl
    · by_cases h60 : l.length ≤ 60
      all_goals refine vcE.ex (by simp (disch := first | assumption | omega | with_unfolding_all rfl) only [exC, exOps, exOp, wantedE, ↓reduceIte, ROp.run, evsE, evE, h0, putE, ty, same, Option.map_some, binA, intA, dec_true, dec_false]; rfl) ?_
      all_goals refine ⟨_, rfl, ?_⟩
      all_goals simp only [lightC, h, h60, upd_app, Nat.reduceEqDiff, ↓reduceIte, decide_true, decide_false, Bool.and_self, Bool.and_false]
      all_goals rfl


/-! ### The chapter's examples -/
abbrev banB (s : List UInt8) : Act := ⟨1, [33, 114, 58, 120], s, [], []⟩
theorem pBanB (s : List UInt8) : PCF Try.prog 54 [.str s] (.agg (banB s).c) := by
  refine pcf_of (nidL_ok rfl) ((calls_e hmG (TabOk.none _) comp54 (by decide) (by simp) (K := fun r' hp' => fresh hp' r' = some (.agg (banB s).c)) ?_).mono fun _ _ => fresh_ok)
  refine vcE.ex (by simp (disch := first | assumption | omega) only [exC, exOps, exOp, wantedE, ↓reduceIte, ROp.run, evsE, allocA, List.length_nil, List.nil_append, putE, evE, ty, reduceCtorEq, List.getD_cons_zero, List.length_cons, Nat.reduceAdd, same]; rfl) ?_
  exact ⟨_, rfl, rfl⟩
def T8b : Tab := T8.addR 54 (.cons .str .nil) fun p => .rd true (.agg (banB p.1).c)
theorem T8b_ok : TabOk Try.prog T8b := TabOk.addR T8_ok fun p => pBanB p.1
theorem T8b_ne {g : FuncId} {xs : List AV} (h : Nat.beq g 54 = false) : T8b g xs = T8 g xs := Tab.addR_ne _ _ _ _ h _
abbrev aB : Act := banB [64, 97, 58, 98]
abbrev qB (f d : Bool) (t x now : Int) : Que := ⟨[⟨1, aB, f, d, t, x⟩], 2, now, [], [], false⟩
theorem qB_ok {f d : Bool} {t x now : Int} (h1 : 0 ≤ t) (h2 : t < 5) (h3 : 0 ≤ now) (h4 : now ≤ 1152921504606846976) : OkQ (qB f d t x now) where
  fits := ⟨by simp [qB, most], by simp [qB, most], by simp [qB, most]⟩
  n1 := by simp [qB]
  n2 := by simp [qB]
  t1 := h3
  t2 := h4
  tr j hj := by
    simp only [qB, List.mem_singleton] at hj
    subst hj
    exact ⟨h1, h2⟩
set_option maxHeartbeats 2000000 in
theorem pLives : PCF Try.prog 10 [] (.bool true) := by
  refine pcf_of (nidL_ok rfl) ((calls_e hmG T8b_ok comp10 (by decide) (by simp) (K := fun r' hp' => fresh hp' r' = some (.bool true)) ?_).mono fun _ _ => fresh_ok)
  have hcl : True := trivial
  have hoe : OkQ Que.empty := empty_valid.ok
  have c0 : T8b 13 [] = _ := (T8b_ne rfl).trans ((T8_ne rfl).trans T7_empty)
  have c1 : T8b 54 [.str [64, 97, 58, 98]] = some (.rd true (.agg aB.c)) := rfl
  have c2 : T8b 12 [.agg Que.empty.c, .agg aB.c] = _ := (T8b_ne rfl).trans ((T8_ne rfl).trans (T7_put hoe aB))
  rw [show Que.empty.put aB = (qB false false 0 0 0, 1, 0) by decide] at c2
  have c3 : T8b 14 [.agg (qB false false 0 0 0).c, .int .i64 1] = _ := (T8b_ne rfl).trans ((T8_ne rfl).trans (T7_send (qB_ok (by omega) (by omega) (by omega) (by omega)) 1))
  rw [show (qB false false 0 0 0).send 1 = (qB true false 0 0 0, 0) by decide] at c3
  have c4 : T8b 55 [.agg (qB true false 0 0 0).c] = _ := (T8b_ne rfl).trans (T8_land (qB_ok (by omega) (by omega) (by omega) (by omega)).fits)
  rw [show (qB true false 0 0 0).land = qB false true 0 0 0 by decide] at c4
  have c5 : T8b 20 [.agg (qB false true 0 0 0).c, .fsl [] 0] = _ := (T8b_ne rfl).trans ((T8_ne rfl).trans (T7_next (qB_ok (by omega) (by omega) (by omega) (by omega)).fits (l := []) (by simp)))
  rw [show (qB false true 0 0 0).nxt [] = (⟨1, aB, false, true, 0, 0⟩, true) by decide] at c5
  have c6 : T8b 15 [.agg (qB true false 0 0 0).c, .int .i64 1, .bool false] = _ := (T8b_ne rfl).trans ((T8_ne rfl).trans (T7_reply (qB_ok (by omega) (by omega) (by omega) (by omega)) 1 false))
  rw [show (qB true false 0 0 0).reply 1 false = (qB false false 1 2 0, 2, 0) by decide] at c6
  have c7 : T8b 20 [.agg (qB false false 1 2 0).c, .fsl [] 0] = _ := (T8b_ne rfl).trans ((T8_ne rfl).trans (T7_next (qB_ok (by omega) (by omega) (by omega) (by omega)).fits (l := []) (by simp)))
  rw [show (qB false false 1 2 0).nxt [] = (Job.zero, false) by decide] at c7
  have c8 : T8b 19 [.agg (qB false false 1 2 0).c, .int .i64 2] = _ := (T8b_ne rfl).trans ((T8_ne rfl).trans (T7_pass (qB_ok (by omega) (by omega) (by omega) (by omega)) 2))
  rw [show (qB false false 1 2 0).pass 2 = (qB false false 1 2 2, 0) by decide] at c8
  have c9 : T8b 20 [.agg (qB false false 1 2 2).c, .fsl [] 0] = _ := (T8b_ne rfl).trans ((T8_ne rfl).trans (T7_next (qB_ok (by omega) (by omega) (by omega) (by omega)).fits (l := []) (by simp)))
  rw [show (qB false false 1 2 2).nxt [] = (⟨1, aB, false, false, 1, 2⟩, true) by decide] at c9
  generalize hQ0 : qB false false 0 0 0 = Q0 at *
  generalize hQ1 : qB true false 0 0 0 = Q1 at *
  generalize hQ2 : qB false true 0 0 0 = Q2 at *
  generalize hQ3 : qB false false 1 2 0 = Q3 at *
  generalize hQ4 : qB false false 1 2 2 = Q4 at *
  refine vcE.step (by simp (disch := first | assumption | omega | with_unfolding_all rfl) only [exC, exOps, exOp, wantedE, ↓reduceIte, ROp.run, evsE, evE, putE]; rfl) (vcE.step (by simp (disch := first | assumption | omega | with_unfolding_all rfl) only [exC, exOps, exOp, wantedE, ↓reduceIte, evsE, evE, List.append_nil, frzL, c0, Cls.isFree, callCls, ty, nidL, putE, tz, c1, Nat.reduceEqDiff, frz_agg, queL_frz, actL_frz, c2, queL_nid, actL_nid, ROp.run, same, List.getElem?_cons_zero, Option.map_some, List.getElem?_cons_succ, allocA, List.length_nil, List.nil_append, storeA_eq, Que.c_len, List.length_cons, Nat.reduceAdd, Nat.reduceLeDiff, dec_true, over, List.take_zero, List.drop_succ_cons, List.drop_nil, List.set_cons_zero]; rfl) (vcE.step (by simp (disch := first | assumption | omega | with_unfolding_all rfl) only [exC, exOps, exOp, wantedE, ↓reduceIte, ROp.run, evsE, evE, ty, Nat.reduceEqDiff, same, loadA, rowA, List.getElem?_cons_zero, ↓pickQ, Option.map_some, putE, List.append_nil, frzL, frz_agg, queL_frz, tz, c3, Cls.isFree, callCls, nidL, queL_nid, List.getElem?_cons_succ, storeA_eq, Que.c_len, Nat.reduceLeDiff, dec_true, over, List.take_zero, List.nil_append, dropQ, List.set_cons_zero]; rfl) (vcE.step (by simp (disch := first | assumption | omega | with_unfolding_all rfl) only [exC, exOps, exOp, wantedE, ↓reduceIte, ROp.run, evsE, evE, ty, Nat.reduceEqDiff, same, loadA, rowA, List.getElem?_cons_zero, ↓pickQ, Option.map_some, putE, List.append_nil, frzL, frz_agg, queL_frz, c4, Cls.isFree, callCls, nidL, tz, queL_nid, c5, List.getElem?_cons_succ, allocA, List.length_cons, List.length_nil, List.cons_append, List.nil_append, storeA_eq, Job.c_len, Nat.reduceAdd, Nat.reduceLeDiff, dec_true, over, List.take_zero, List.drop_succ_cons, List.drop_nil, List.set_cons_succ, List.set_cons_zero]; rfl) (vcE.step (by simp (disch := first | assumption | omega | with_unfolding_all rfl) only [exC, exOps, exOp, wantedE, ↓reduceIte, ROp.run, evsE, evE, ty, Nat.reduceEqDiff, same, loadA, rowA, List.getElem?_cons_zero, ↓pickQ, Option.map_some, putE, List.append_nil, frzL, frz_agg, queL_frz, tz, c6, Cls.isFree, callCls, nidL, queL_nid, List.getElem?_cons_succ, allocA, List.length_cons, List.length_nil, Nat.reduceAdd, List.cons_append, List.nil_append, storeA_eq, Que.c_len, Nat.reduceLeDiff, dec_true, over, List.take_zero, List.drop_succ_cons, List.drop_nil, List.set_cons_succ, List.set_cons_zero]; rfl) ?_))))
  refine vcE.step (by simp (disch := first | assumption | omega | with_unfolding_all rfl) only [exC, exOps, exOp, wantedE, ↓reduceIte, ROp.run, evsE, evE, ty, Nat.reduceEqDiff, same, loadA, rowA, List.getElem?_cons_succ, List.getElem?_cons_zero, ↓pickQ, Option.map_some, putE, List.append_nil, frzL, frz_agg, queL_frz, tz, c7, Cls.isFree, callCls, nidL, queL_nid, allocA, List.length_cons, List.length_nil, Nat.reduceAdd, List.cons_append, List.nil_append, storeA_eq, Job.c_len, Nat.reduceLeDiff, dec_true, over, List.take_zero, List.drop_succ_cons, List.drop_nil, List.set_cons_succ, List.set_cons_zero]; rfl) (vcE.step (by simp (disch := first | assumption | omega | with_unfolding_all rfl) only [exC, exOps, exOp, wantedE, ↓reduceIte, ROp.run, evsE, evE, ty, Nat.reduceEqDiff, same, loadA, rowA, List.getElem?_cons_succ, List.getElem?_cons_zero, ↓pickQ, Option.map_some, putE, List.append_nil, frzL, frz_agg, queL_frz, tz, c8, Cls.isFree, callCls, nidL, queL_nid, storeA_eq, Que.c_len, Nat.reduceLeDiff, dec_true, over, List.take_zero, List.nil_append, dropQ, List.set_cons_succ, List.set_cons_zero]; rfl) (vcE.step (by simp (disch := first | assumption | omega | with_unfolding_all rfl) only [exC, exOps, exOp, wantedE, ↓reduceIte, ROp.run, evsE, evE, ty, Nat.reduceEqDiff, same, loadA, rowA, List.getElem?_cons_succ, List.getElem?_cons_zero, ↓pickQ, Option.map_some, putE, List.append_nil, frzL, frz_agg, queL_frz, tz, c9, Cls.isFree, callCls, nidL, queL_nid, allocA, List.length_cons, List.length_nil, Nat.reduceAdd, List.cons_append, List.nil_append, storeA_eq, Job.c_len, Nat.reduceLeDiff, dec_true, over, List.take_zero, List.drop_succ_cons, List.drop_nil, List.set_cons_succ, List.set_cons_zero]; rfl) ?_))
  refine vcE.ex (by simp (disch := first | assumption | omega | with_unfolding_all rfl) only [exC, exOps, exOp, wantedE, ↓reduceIte, ROp.run, evsE, evE, Job.c, ty, Nat.reduceEqDiff, putE, same, binA, intA, dec_true, Option.map_some, beq_self_eq_true, faddrA, loadA, rowA, List.getElem?_cons_succ, List.getElem?_cons_zero, pickA, tz, unA]; rfl) ?_
  exact ⟨_, rfl, rfl⟩

end Go.Gi
