/- Queues: Withdraw. -/
import Derived.Test.YtakdhioafodhcaaGiQuI
set_option linter.unusedVariables false
set_option linter.unusedSimpArgs false
namespace Go.Gi
open Go Go.Proofs

section
variable {α : Type}
/-- A slice that is what is left in its row. -/
def Sl (E : Enc α) (e : TypeId) (hp : HP) (id : Nat) (v : AV) (l : List α) : Prop := (v = .esl ∧ l = []) ∨ ∃ (n : Nat) (ex : Bool) (l2 : List α), v = .sl id 0 l.length E.sz n ex ∧ hp[id]? = some (some (.row e (E.cs l2))) ∧ l.length ≤ l2.length ∧ l2.take l.length = l
variable {E : Enc α} {e : TypeId} {hp hp' : HP} {id : Nat} {v : AV} {l : List α}
theorem Sl.fresh (h : Sl E e hp id v l) (hi : E.ip = true := by rfl) : Gi.fresh hp v = some (E.S l) := by
  rcases h with ⟨rfl, rfl⟩ | ⟨n, ex, l2, rfl, h1, h2, h3⟩
  · rfl
  · rw [E.pre_fresh h1 h2 hi, h3]
theorem Sl.keep (h : Sl E e hp id v l) (hh : ∀ x, hp[id]? = some (some x) → hp'[id]? = some (some x)) : Sl E e hp' id v l := by
  rcases h with h | ⟨n, ex, l2, h0, h1, h2⟩
  · exact .inl h
  · exact .inr ⟨n, ex, l2, h0, hh _ h1, h2⟩
theorem Sl.one (h : Sl E e hp id v l) : oneA v = true := by
  rcases h with ⟨rfl, rfl⟩ | ⟨n, ex, l2, rfl, h1, h2, h3⟩ <;> rfl
theorem Sl.cells (h : Sl E e hp id v l) : cellsA v = [v] := by
  rcases h with ⟨rfl, rfl⟩ | ⟨n, ex, l2, rfl, h1, h2, h3⟩ <;> rfl
theorem Sl.nt (h : Sl E e hp id v l) : notTup v = true := by
  rcases h with ⟨rfl, rfl⟩ | ⟨n, ex, l2, rfl, h1, h2, h3⟩ <;> rfl

theorem index_esl {P : Program} (hm : P.follows .mixedOrders = true) {hint : Nat → Nat} {f : FuncId} {sz : Nat} (hf : compF P hint f = some ⟨indexC sz, 19, [.t 4]⟩) {g : FuncId} {caps : List AV} (hp : HP) :
    ACalls P f [.esl, .func g caps] hp fun r hp' => r = .int .i64 (-1) ∧ hp' = hp := by
  refine calls_e hm (TabOk.none _) hf (by rfl) (by simp) ?_
  refine vcE.step (by simp only [exC, exOps, exOp, wantedE, ↓reduceIte, ROp.run, evsE, evE, putE]; rfl) (vcE.then (fun e' tm hp' => e' = .normal ∧ hp' = hp) ?_ ?_)
  · refine vcE.step (by simp only [exC, exOps, exOp, wantedE, ↓reduceIte, ROp.run, evsE, evE, ty, reduceCtorEq, List.getD_cons_zero, putE, tz, same, Option.map_some]; rfl) (vcE.block (vcE.count (by intro l tm hp h; simp at h) (fun i tm hp' => hp' = hp ∧ tm 7 = .int .i64 0 ∧ tm 8 = .int .i64 0) 0 ⟨rfl, rfl, rfl⟩ (by intro i tm hp hi; omega) ?_))
    rintro tm hp' ⟨rfl, e7, e8⟩
    refine vcE.ex (by simp (disch := omega) only [exC, exOps, exOp, wantedE, ↓reduceIte, ROp.run, evsE, evE, e8, e7, same, binA, intA, dec_false, Option.map_some, putE, ty]; rfl) ?_
    exact ⟨rfl, rfl⟩
  · rintro e' tm hp' ⟨rfl, rfl⟩
    refine vcE.ex (by simp only [exC, exOps, exOp, wantedE, ↓reduceIte, ROp.run, evsE, evE, putE]; rfl) ?_
    exact ⟨_, rfl, rfl, rfl⟩
theorem deleteF_osl {P : Program} (hm : P.follows .mixedOrders = true) {hint hint' : Nat → Nat} {f gi : FuncId} (E : Enc α) {e0 : TypeId} (z : α) (hf : compF P hint f = some ⟨deleteFC gi e0 E.sz (E.c z), 42, [.t 4]⟩) (hfi : compF P hint' gi = some ⟨indexC E.sz, 19, [.t 4]⟩) {g : FuncId} {caps : List AV} {id : Nat} {p : α → Bool} {l : List α} {J : Nat → HP → Prop} (hA : Asks P E g caps id p l J) (hl : l.length ≤ 4611686018427387904) {hp : HP} {e : TypeId} (h : hp[id]? = some (orow l.length e (E.cs l))) (hJ : J 0 hp) :
    ACalls P f [osl id l.length E.sz, .func g caps] hp fun r hp' => Sl E e hp' id r (l.filter fun a => !p a) ∧ J l.length hp' := by
  by_cases h0 : l.length = 0
  · have := List.eq_nil_of_length_eq_zero h0
    subst this
    refine calls_e hm (TabOk.none _) hf (by rfl) (by simp) ?_
    refine vcE.step (by simp only [exC, exOps, exOp, wantedE, ↓reduceIte, ROp.run, evsE, evE, putE, List.length_nil]; rfl) ?_
    rw [show ([⟨some 8, .op (.mov), [.t 0], none⟩, ⟨some 9, .op (.mov), [.t 1], none⟩, ⟨some 10, .call none, [.f gi, .t 8, .t 9], none⟩, ⟨some 5, .op (.mov), [.t 10], none⟩] : List IOp) = [⟨some 8, .op (.mov), [.t 0], none⟩, ⟨some 9, .op (.mov), [.t 1], none⟩] ++ ([⟨some 10, .call none, [.f gi, .t 8, .t 9], none⟩] ++ [⟨some 5, .op (.mov), [.t 10], none⟩]) from rfl]
    refine vcE.seq (vcE.app (vcE.ex (by simp only [exC, exOps, exOp, wantedE, ↓reduceIte, ROp.run, evsE, evE, ty, reduceCtorEq, List.getD_cons_zero, putE, Nat.reduceEqDiff, List.getD_cons_succ]; rfl) ⟨rfl, vcE.app (vcE.call (f := gi) (caps := []) (ys := [.esl, .func g caps]) rfl rfl (index_esl hm hfi hp) ?_)⟩))
    rintro r hp1 ⟨rfl, rfl⟩
    refine ⟨rfl, vcE.ex (by simp only [exC, exOps, exOp, wantedE, ↓reduceIte, ROp.run, evsE, evE, putE, ty]; rfl) ?_⟩
    refine vcE.ex (by simp only [exC, exOps, exOp, wantedE, ↓reduceIte, ROp.run, evsE, evE, ty, putE, same, binA, intA, dec_true, Option.map_some, reduceCtorEq, List.getD_cons_zero]; rfl) ?_
    exact ⟨_, rfl, .inl ⟨rfl, rfl⟩, hJ⟩
  · rw [osl_pos (by omega)]
    rw [orow_pos (by omega)] at h
    refine (deleteF_asks hm E z hf hfi hA hl h hJ).mono ?_
    rintro r hp' ⟨l2, h1, rfl, h3, h4, h5⟩
    exact ⟨.inr ⟨_, _, l2, rfl, h3, by rw [h1]; exact List.length_filter_le _ _, h4⟩, h5⟩
end

/-- What a call of Withdraw's function does to the list of what goes. -/
theorem wd_fun {keep : List Act} (hk : keep.length ≤ most) (j : Job) {ld : List Job} (hld : ld.length ≤ 1073741824) {H : HP} {gid : Nat} (h1 : H[1]? = some (some (.row 27 [encA.S keep]))) (h11 : H[11]? = some (some (.row 26 [bld gid ld.length 10]))) (hB : BldAt encJ H gid 42 ld) (hg : ld = [] ∨ 11 < gid) :
    ACalls Try.prog 112 [.agg j.c, .ptr 1 0, .ptr 11 0] H fun r H' => r = .bool (goes keep j) ∧ ∃ gid', H'[11]? = some (some (.row 26 [bld gid' (if goes keep j then ld ++ [j] else ld).length 10])) ∧ BldAt encJ H' gid' 42 (if goes keep j then ld ++ [j] else ld) ∧ ((if goes keep j then ld ++ [j] else ld) = [] ∨ 11 < gid') ∧ ∀ k x, k ≠ 11 → (ld = [] ∨ k ≠ gid) → H[k]? = some x → H'[k]? = some x := by
  have hcl : True := trivial
  have hlt : 11 < H.length := get_lt h11
  have g1 : ∀ l, (H ++ l)[1]? = some (some (.row 27 [encA.S keep])) := fun l => app_get h1
  have g11 : ∀ l, (H ++ l)[11]? = some (some (.row 26 [bld gid ld.length 10])) := fun l => app_get h11
  have hw : T6 62 [.agg j.c] = _ := (T6_T4 rfl rfl).trans (T4_waits j)
  have hin := T6_inA hk j.act
  refine calls_e hmG T6_ok comp112 (by decide) (by simp) ?_
  have hl10 : ∀ l, loadA (H ++ some (.row 42 j.c) :: l) (some 10) (.ptr H.length 0) = some (.agg j.c) := fun l => by
    simp only [loadA, rowA, getA0, List.getElem?_cons_zero]
    rfl
  have hl5 : ∀ l, loadA (H ++ some (.row 42 j.c) :: l) (some 5) (.ptr H.length 1) = some (.agg j.act.c) := fun l => by
    simp only [loadA, rowA, getA0, List.getElem?_cons_zero]
    rfl
  unfold goes
  cases hjw : j.waits <;> rw [hjw] at hw
  · refine vcE.ex (by simp (disch := first | assumption | omega | with_unfolding_all rfl) only [exC, exOps, exOp, wantedE, ↓reduceIte, ROp.run, evsE, evE, ty, List.getD_cons_zero, tz, putE, Nat.reduceEqDiff, same, ↓hl10, Option.map_some, List.append_nil, frzL, frz_agg, jobL_frz, hw, Cls.isFree, callCls, nidL, jobL_nid, beq_iff_eq]; rfl) ?_
    refine ⟨_, rfl, rfl, gid, g11 _, hB.app _, hg, fun k x _ _ hx => app_get hx⟩
  by_cases hm : j.act ∈ keep
  · rw [decide_eq_true hm] at hin
    refine vcE.ex (by simp (disch := first | assumption | omega | with_unfolding_all rfl) only [exC, exOps, exOp, wantedE, ↓reduceIte, ROp.run, evsE, evE, ty, List.getD_cons_zero, tz, putE, Nat.reduceEqDiff, same, ↓hl10, Option.map_some, List.append_nil, frzL, frz_agg, jobL_frz, hw, Cls.isFree, callCls, nidL, jobL_nid, beq_self_eq_true, List.getD_cons_succ, loadA, rowA, g1, pickA, List.getElem?_cons_zero, faddrA, ↓hl5, actL_frz, hin, actL_nid, unA]; rfl) ?_
    refine ⟨_, rfl, ?_, gid, ?_, ?_, ?_, fun k x _ _ hx => app_get hx⟩
    all_goals try simp only [upd_app, Nat.reduceEqDiff, ↓reduceIte, hm, decide_true, Bool.not_true, Bool.and_false, Bool.false_eq_true, if_false]
    · exact g11 _
    · exact hB.app _
    · exact hg
  · rw [decide_eq_false hm] at hin
    have hmore : appA 42 10 104 (H ++ [some (.row 42 j.c), some (.row 42 j.c)]) (bld gid ld.length 10) (.sl (H.length + 1) 0 1 10 1 true) = some (bld (H.length + 2) (ld.length + 1) 10, bldH (H ++ [some (.row 42 j.c), some (.row 42 j.c)]) gid ld.length (.row 42 (encJ.cs (ld ++ [j])))) := by
      have hg2 : (H ++ [some (Blk.row 42 j.c), some (Blk.row 42 j.c)])[H.length + 1]? = some (some (.row 42 (encJ.cs [j]))) := by simp [Enc.cs, encJ]
      have := (hB.app [some (.row 42 j.c), some (.row 42 j.c)]).more (m := [j]) (bytes := 104) (encJ.sl_src (lo := 1) (ex := true) hg2) (by simp) (by simp only [List.length_cons, List.length_nil]; omega) (by simp only [List.length_cons, List.length_nil]; omega)
      rw [show (H ++ [some (Blk.row 42 j.c), some (Blk.row 42 j.c)]).length = H.length + 2 by simp] at this
      rw [List.length_append] at this
      exact this
    have hst : storeA (bldH (H ++ [some (.row 42 j.c), some (.row 42 j.c)]) gid ld.length (.row 42 (encJ.cs (ld ++ [j])))) 1 (.ptr 11 0) (bld (H.length + 2) (ld.length + 1) 10) = some (List.set (bldH (H ++ [some (.row 42 j.c), some (.row 42 j.c)]) gid ld.length (.row 42 (encJ.cs (ld ++ [j])))) 11 (some (.row 26 [bld (H.length + 2) (ld.length + 1) 10]))) := by
      have h0 : (bldH (H ++ [some (.row 42 j.c), some (.row 42 j.c)]) gid ld.length (.row 42 (encJ.cs (ld ++ [j]))))[11]? = some (some (.row 26 [bld gid ld.length 10])) := bldH_other (g11 _) (by
        rcases hg with h | h
        · left; rw [h]; rfl
        · right; omega)
      have hnt : notTup (bld (H.length + 2) (ld.length + 1) 10) = true := by unfold bld; split <;> rfl
      simp only [storeA_eq, h0, hnt, bld_cells]
      rfl
    have hob : oneA (bld gid ld.length 10) = true := bld_one _ _ _
    refine vcE.ex (by simp (disch := first | assumption | omega | with_unfolding_all rfl) only [exC, exOps, exOp, wantedE, ↓reduceIte, ROp.run, evsE, evE, ty, List.getD_cons_zero, tz, putE, Nat.reduceEqDiff, same, ↓hl10, Option.map_some, List.append_nil, frzL, frz_agg, jobL_frz, hw, Cls.isFree, callCls, nidL, jobL_nid, beq_self_eq_true, List.getD_cons_succ, loadA, rowA, g1, pickA, List.getElem?_cons_zero, faddrA, ↓hl5, actL_frz, hin, actL_nid, unA, g11, hob, bslA, Job.c_len, List.length_append, List.length_cons, List.length_nil, flatA, List.flatMap_cons, List.flatMap_nil, List.append_assoc, List.cons_append, List.nil_append, ↓hmore, ↓hst]; rfl) ?_
    refine ⟨_, rfl, ?_, H.length + 2, ?_, ?_, ?_, ?_⟩
    all_goals try simp only [upd_app, Nat.reduceEqDiff, ↓reduceIte, hm, decide_false, Bool.not_false, Bool.and_true, if_true, List.length_append, List.length_cons, List.length_nil]
    · refine set_get (y := some (.row 26 [bld gid ld.length 10])) (bldH_other (g11 _) ?_)
      rcases hg with h | h
      · left; rw [h]; rfl
      · right; omega
    · have := BldAt.moreAt encJ (H ++ [some (.row 42 j.c), some (.row 42 j.c)]) gid ld.length 42 (ld ++ [j])
      rw [show (H ++ [some (Blk.row 42 j.c), some (Blk.row 42 j.c)]).length = H.length + 2 by simp] at this
      refine this.imp id fun h => ?_
      rw [set_get_ne (by omega)]
      exact h
    · right; omega
    · intro k x hk11 hkg hx
      rw [set_get_ne (Ne.symm hk11)]
      refine bldH_other (app_get hx) ?_
      rcases hkg with h | h
      · left; rw [h]; rfl
      · right; exact h

theorem pWd2 {keep : List Act} (hk : keep.length ≤ most) (a : Act) : PCF Try.prog 115 [.agg a.c, .fptr [encA.S keep] 0] (.bool (!decide (a ∈ keep))) := by
  refine pcf_e hmG T6_ok comp115 (by decide) (by simp) (nidL_ok (by simp only [nidL, actN, nid_fptr, Enc.S_nid, Bool.and_self])) ?_
  have hcl : True := trivial
  have hin := T6_inA hk a
  refine vcE.ex (by simp (disch := first | assumption | omega | with_unfolding_all rfl) only [exC, exOps, exOp, wantedE, ↓reduceIte, ROp.run, evsE, evE, ty, List.getD_cons_zero, tz, List.length_nil, List.nil_append, putE, Nat.reduceEqDiff, List.getD_cons_succ, same, loadA, rowA, pickA, List.getElem?_cons_zero, Option.map_some, ↓pickA5, List.append_nil, frzL, frz_agg, actL_frz, hin, Cls.isFree, callCls, nidL, actL_nid, unA]; rfl) ?_
  exact ⟨_, rfl, rfl⟩
def T6w : Tab := T6.addO 115 (.cons .act (.cons (.fp1 (.S encA)) .nil)) fun p => if p.2.1.length ≤ most then some (.rd true (.bool (!decide (p.1 ∈ p.2.1)))) else none
theorem T6w_ok : TabOk Try.prog T6w := by
  refine TabOk.addO T6_ok ?_
  intro p r h
  split at h
  · rename_i hv; cases h; exact pWd2 hv _
  · cases h
theorem T6w_wd2 {keep : List Act} (hk : keep.length ≤ most) (a : Act) : T6w 115 [.agg a.c, .fptr [encA.S keep] 0] = some (.rd true (.bool (!decide (a ∈ keep)))) :=
  (Tab.addO_self _ _ (.cons .act (.cons (.fp1 (.S encA)) .nil)) _ (a, keep, ())).trans (if_pos hk)
theorem T6w_clone {q : Que} (h : Fits q) : T6w 56 [.agg q.c] = some (.mk fun n => (cloneV q n, cloneH q)) := (Tab.addO_ne _ _ _ _ rfl _).trans ((T6_T4 rfl rfl).trans (T4_clone h))

/-- The first function, asked of all jobs. -/
theorem asks1 {keep : List Act} (hk : keep.length ≤ most) {l : List Job} (hl : l.length ≤ 1073741824) (base : HP) (hb1 : base[1]? = some (some (.row 27 [encA.S keep]))) (hb : base.length ≤ 12) :
    Asks Try.prog encJ 112 [.ptr 1 0, .ptr 11 0] 6 (goes keep) l fun i hp => (∀ k x, k < 11 → k ≠ 6 → base[k]? = some x → hp[k]? = some x) ∧ 11 < hp.length ∧ ∃ gid, hp[11]? = some (some (.row 26 [bld gid ((l.take i).filter (goes keep)).length 10])) ∧ BldAt encJ hp gid 42 ((l.take i).filter (goes keep)) ∧ ((l.take i).filter (goes keep) = [] ∨ (11 < gid ∧ gid < hp.length)) := by
  have step : ∀ {i : Nat} {a : Job}, l[i]? = some a → (l.take (i + 1)).filter (goes keep) = if goes keep a then (l.take i).filter (goes keep) ++ [a] else (l.take i).filter (goes keep) := fun {i a} h => by
    rw [List.take_add_one, h, List.filter_append]
    simp only [Option.toList_some, List.filter_cons, List.filter_nil]
    split <;> simp
  have len : ∀ i, ((l.take i).filter (goes keep)).length ≤ 1073741824 := fun i => by
    have h1 : ((l.take i).filter (goes keep)).length ≤ (l.take i).length := List.length_filter_le _ _
    rw [List.length_take] at h1
    omega
  refine ⟨?_, ?_, ?_⟩
  · rintro i a hp x ha ⟨h0, hlt, gid, h11, hB, hg⟩ hx
    refine (wd_fun hk a (len i) (h0 1 _ (by omega) (by omega) hb1) h11 hB (hg.imp id And.left)).mono ?_
    rintro r H' ⟨rfl, gid', k11, kB, kg, kk⟩
    have hne : ∀ k, k < 11 → (l.take i).filter (goes keep) = [] ∨ k ≠ gid := fun k hk => hg.imp id fun h => by omega
    refine ⟨rfl, ⟨fun k y h1 h2 h3 => kk k y (by omega) (hne k h1) (h0 k y h1 h2 h3), get_lt k11, gid', ?_⟩, kk 6 x (by omega) (hne 6 (by omega)) hx⟩
    rw [step ha]
    refine ⟨k11, kB, ?_⟩
    rcases kB with h2 | h2
    · exact .inl h2
    · exact kg.imp id fun h => ⟨h, get_lt h2⟩
  · rintro i a hp b x ha ⟨h0, hlt, gid, h11, hB, hg⟩ hx
    refine (wd_fun hk a (len i) (app_get (h0 1 _ (by omega) (by omega) hb1)) (app_get h11) (hB.app [b]) (hg.imp id And.left)).mono ?_
    rintro r H' ⟨rfl, gid', k11, kB, kg, kk⟩
    have hne : ∀ k, k < 11 ∨ k = hp.length → (l.take i).filter (goes keep) = [] ∨ k ≠ gid := fun k hk => hg.imp id fun h => by omega
    refine ⟨rfl, ⟨fun k y h1 h2 h3 => kk k y (by omega) (hne k (.inl h1)) (app_get (h0 k y h1 h2 h3)), get_lt k11, gid', ?_⟩, kk 6 x (by omega) (hne 6 (.inl (by omega))) (app_get hx), kk hp.length b (by omega) (hne _ (.inr rfl)) (by simp)⟩
    rw [step ha]
    refine ⟨k11, kB, ?_⟩
    rcases kB with h2 | h2
    · exact .inl h2
    · exact kg.imp id fun h => ⟨h, get_lt h2⟩
  · rintro i hp x ⟨h0, hlt, gid, h11, hB, hg⟩
    refine ⟨fun k y h1 h2 h3 => by rw [set_get_ne (Ne.symm h2)]; exact h0 k y h1 h2 h3, by simpa using hlt, gid, by rw [set_get_ne (by omega)]; exact h11, ?_, by simpa using hg⟩
    rcases hg with hg | hg
    · exact .inl hg
    · refine hB.imp id fun h => ?_
      rw [set_get_ne (by omega)]
      exact h
/-- The second function, asked of all that is settled. -/
theorem asks2 {keep : List Act} (hk : keep.length ≤ most) (l : List Act) (R : HP → Prop) (hR1 : ∀ hp, R hp → hp[1]? = some (some (.row 27 [encA.S keep]))) (hRa : ∀ hp b, R hp → R (hp ++ [b])) (hRs : ∀ hp x, R hp → R (hp.set 10 x)) :
    Asks Try.prog encA 115 [.ptr 1 0] 10 (fun a => !decide (a ∈ keep)) l fun _ hp => R hp := by
  have call : ∀ (a : Act) (hp : HP), hp[1]? = some (some (.row 27 [encA.S keep])) → ACalls Try.prog 115 [.agg a.c, .ptr 1 0] hp fun r hp' => r = .bool (!decide (a ∈ keep)) ∧ hp' = hp := fun a hp h =>
    tab_calls T6w_ok (T6w_wd2 hk a) (by simp only [frzL, frz_ptr, h, frz_agg, actL_frz, nidL, Enc.S_nid, Bool.and_self, if_true]) (.inl rfl)
  refine ⟨?_, ?_, ?_⟩
  · intro i a hp x ha hR hx
    refine (call a hp (hR1 hp hR)).mono ?_
    rintro r hp' ⟨rfl, rfl⟩
    exact ⟨rfl, hR, hx⟩
  · intro i a hp b x ha hR hx
    refine (call a (hp ++ [b]) (hR1 _ (hRa _ _ hR))).mono ?_
    rintro r hp' ⟨rfl, rfl⟩
    exact ⟨rfl, hRa _ _ hR, app_get hx, by simp⟩
  · intro i hp x hR
    exact hRs hp x hR

set_option maxHeartbeats 1000000 in
theorem pWithdraw (q : Que) (hq : Fits q) (keep : List Act) (hk : keep.length ≤ most) : PCF Try.prog 69 [.agg q.c, encA.S keep] (.tup [.agg (q.withdraw keep).1.c, encJ.S (q.withdraw keep).2]) := by
  have hx : NoIdL [.agg q.c, encA.S keep] := nidL_ok (by simp only [nidL, queN, Enc.S_nid, Bool.and_self])
  refine pcf_of hx ((calls_e hmG T6w_ok comp69 (by decide) (by simp) (K := fun r' hp' => fresh hp' r' = some (.tup [.agg (q.withdraw keep).1.c, encJ.S (q.withdraw keep).2])) ?_).mono fun _ _ => fresh_ok)
  have hcl := T6w_clone hq
  have hjl := hq.j
  have hfl := hq.f
  have hsl := hq.s
  simp only [most] at hjl hfl hsl
  refine vcE.step (by simp (disch := first | assumption | omega | with_unfolding_all rfl) only [exC, exOps, exOp, wantedE, ↓reduceIte, ROp.run, evsE, evE, ty, List.getD_cons_zero, tz, List.length_nil, List.nil_append, putE, Nat.reduceEqDiff, List.getD_cons_succ, List.length_cons, List.cons_append, allocA, Nat.reduceAdd]; rfl) (vcE.step (by simp (disch := first | assumption | omega | with_unfolding_all rfl) only [exC, exOps, exOp, wantedE, ↓reduceIte, ROp.run, evsE, evE, ty, Nat.reduceEqDiff, same, loadA, rowA, List.getElem?_cons_zero, ↓pickQ, Option.map_some, putE, List.append_nil, frzL, frz_agg, queL_frz, hcl, cloneV, cloneH, Cls.makes, callCls, nidL, tz, queL_nid, List.length_cons, List.length_nil, Nat.reduceAdd, List.cons_append, List.nil_append, storeA_eq, Que.c_len, Nat.reduceLeDiff, decide_true, over, List.take_zero, dropQ, List.set_cons_zero]; rfl) (vcE.step (by simp (disch := first | assumption | omega | with_unfolding_all rfl) only [exC, exOps, exOp, wantedE, ↓reduceIte, ROp.run, evsE, allocA, List.length_cons, List.length_nil, ty, Nat.reduceAdd, List.cons_append, List.nil_append, putE]; rfl) ?_))
  rw [show r69_3 = r69_3.take 3 ++ ((r69_3.drop 3).take 1 ++ r69_3.drop 4) from rfl]
  let B0 : HP := [some (.row 29 [osl 6 q.jobs.length 10, .int .i64 q.next, .int .i64 q.now, osl 8 q.failed.length 5, osl 10 q.settled.length 5, .bool q.resync]), some (.row 27 [encA.S keep]), some (.row 29 [.nils, .int .i64 0, .int .i64 0, .nils, .nils, .bool false]), none, none, none, orow q.jobs.length 42 (encJ.cs q.jobs), none, orow q.failed.length 23 (encA.cs q.failed), none, orow q.settled.length 23 (encA.cs q.settled), some (.row 26 [.nils])]
  have hdel := deleteF_osl hmG encJ Job.zero comp111 comp108 (asks1 hk hjl B0 rfl (by simp [B0])) (by omega) (hp := B0) (e := 42) rfl ⟨fun _ _ _ _ h => h, by simp [B0], 0, rfl, BldAt.nil _ _ _ _, .inl rfl⟩
  refine vcE.seq (vcE.app (vcE.ex (by simp (disch := first | assumption | omega | with_unfolding_all rfl) only [exC, List.take_succ_cons, List.take_zero, exOps, exOp, wantedE, ↓reduceIte, ROp.run, evsE, evE, ty, Nat.reduceEqDiff, same, faddrA, Option.map_some, putE, loadA, rowA, List.getElem?_cons_zero, pickA]; rfl) ⟨rfl, vcE.app (vcE.call (f := 111) (caps := []) (ys := [osl 6 q.jobs.length 10, .func 112 [.ptr 1 0, .ptr 11 0]]) rfl ?_ hdel ?_)⟩))
  · simp only [evsE, evE, upd_app, Nat.reduceEqDiff, ↓reduceIte]
  rintro rj H1 ⟨hS, hb1, hlt1, gid, h11, hBl, hg⟩
  have b0 := hb1 0 _ (by omega) (by omega) rfl
  have b1 := hb1 1 _ (by omega) (by omega) rfl
  have b2 := hb1 2 _ (by omega) (by omega) rfl
  have b8 := hb1 8 _ (by omega) (by omega) rfl
  have b10 := hb1 10 _ (by omega) (by omega) rfl
  rw [List.take_length] at h11 hBl hg
  have hst : storeA H1 1 (.ptr 0 0) rj = some (List.set H1 0 (some (.row 29 [rj, .int .i64 q.next, .int .i64 q.now, osl 8 q.failed.length 5, osl 10 q.settled.length 5, .bool q.resync]))) := by
    simp only [storeA_eq, b0, hS.nt, hS.cells]
    rfl
  refine ⟨rfl, vcE.ex (by simp (disch := first | assumption | omega | with_unfolding_all rfl) only [exC, List.drop_succ_cons, List.drop_zero, putE, exOps, exOp, wantedE, ↓reduceIte, ROp.run, evsE, evE, ty, Nat.reduceEqDiff, same, faddrA, Option.map_some, ↓hst]; rfl) ?_⟩
  have c0 := set_get (x := some (.row 29 [rj, .int .i64 q.next, .int .i64 q.now, osl 8 q.failed.length 5, osl 10 q.settled.length 5, .bool q.resync])) b0
  have S2 := hS.keep (hp' := List.set H1 0 (some (.row 29 [rj, .int .i64 q.next, .int .i64 q.now, osl 8 q.failed.length 5, osl 10 q.settled.length 5, .bool q.resync]))) (fun x h => by rw [set_get_ne (by omega)]; exact h)
  have kp : ∀ {k : Nat} {y : Option Blk}, k ≠ 0 → H1[k]? = some y → (List.set H1 0 (some (.row 29 [rj, .int .i64 q.next, .int .i64 q.now, osl 8 q.failed.length 5, osl 10 q.settled.length 5, .bool q.resync])))[k]? = some y := fun h1 h2 => by rw [set_get_ne (Ne.symm h1)]; exact h2
  have hBl2 : BldAt encJ (List.set H1 0 (some (.row 29 [rj, .int .i64 q.next, .int .i64 q.now, osl 8 q.failed.length 5, osl 10 q.settled.length 5, .bool q.resync]))) gid 42 (q.jobs.filter (goes keep)) := by
    rcases hg with hg | hg
    · exact .inl hg
    · exact hBl.imp id fun h => kp (by omega) h
  have hg2 : (q.jobs.filter (goes keep)) = [] ∨ (11 < gid ∧ gid < (List.set H1 0 (some (.row 29 [rj, .int .i64 q.next, .int .i64 q.now, osl 8 q.failed.length 5, osl 10 q.settled.length 5, .bool q.resync]))).length) := by simpa using hg
  have b1 := kp (by omega) b1
  have b2 := kp (by omega) b2
  have b8 := kp (by omega) b8
  have b10 := kp (by omega) b10
  have h11 := kp (by omega) h11
  clear hst kp b0 hb1 hlt1 hBl hg hS hdel
  generalize List.set H1 0 (some (.row 29 [rj, .int .i64 q.next, .int .i64 q.now, osl 8 q.failed.length 5, osl 10 q.settled.length 5, .bool q.resync])) = H2 at *
  let R : HP → Prop := fun hp => hp[0]? = some (some (.row 29 [rj, .int .i64 q.next, .int .i64 q.now, osl 8 q.failed.length 5, osl 10 q.settled.length 5, .bool q.resync])) ∧ hp[1]? = some (some (.row 27 [encA.S keep])) ∧ hp[2]? = some (some (.row 29 [.nils, .int .i64 0, .int .i64 0, .nils, .nils, .bool false])) ∧ Sl encJ 42 hp 6 rj (q.jobs.filter fun j => !goes keep j) ∧ hp[8]? = some (orow q.failed.length 23 (encA.cs q.failed)) ∧ hp[11]? = some (some (.row 26 [bld gid (q.jobs.filter (goes keep)).length 10])) ∧ BldAt encJ hp gid 42 (q.jobs.filter (goes keep)) ∧ ((q.jobs.filter (goes keep)) = [] ∨ (11 < gid ∧ gid < hp.length))
  have hR : R H2 := ⟨c0, b1, b2, S2, b8, h11, hBl2, hg2⟩
  have hdel2 := deleteF_osl hmG encA Act.zero comp114 comp106 (asks2 hk q.settled R (fun hp h => h.2.1) (fun hp b h => by
      obtain ⟨h0, h1, h2, h3, h4, h5, h6, h7⟩ := h
      exact ⟨app_get h0, app_get h1, app_get h2, h3.keep fun x h => app_get h, app_get h4, app_get h5, h6.app _, h7.imp id fun h => ⟨h.1, by simp; omega⟩⟩) (fun hp x h => by
      obtain ⟨h0, h1, h2, h3, h4, h5, h6, h7⟩ := h
      have kp : ∀ {k : Nat} {y : Option Blk}, k ≠ 10 → hp[k]? = some y → (List.set hp 10 x)[k]? = some y := fun h1 h2 => by rw [set_get_ne (Ne.symm h1)]; exact h2
      refine ⟨kp (by omega) h0, kp (by omega) h1, kp (by omega) h2, h3.keep fun x h => kp (by omega) h, kp (by omega) h4, kp (by omega) h5, ?_, by simpa using h7⟩
      rcases h7 with h7 | h7
      · exact .inl h7
      · exact h6.imp id fun h => kp (by omega) h)) (by omega) (hp := H2) (e := 23) b10 hR
  clear b10 b8 b2 b1 h11 hBl2 hg2 S2
  have hor1 := hR.2.2.2.1.one
  rw [show r69_4 = r69_4.take 3 ++ ((r69_4.drop 3).take 1 ++ r69_4.drop 4) from rfl]
  refine vcE.seq (vcE.app (vcE.ex (by simp (disch := first | assumption | omega | with_unfolding_all rfl) only [exC, List.take_succ_cons, List.take_zero, exOps, exOp, wantedE, ↓reduceIte, ROp.run, evsE, evE, ty, Nat.reduceEqDiff, same, faddrA, Option.map_some, putE, loadA, rowA, c0, pickA, List.getElem?_cons_succ, List.getElem?_cons_zero]; rfl) ⟨rfl, vcE.app (vcE.call (f := 114) (caps := []) (ys := [osl 10 q.settled.length 5, .func 115 [.ptr 1 0]]) rfl ?_ hdel2 ?_)⟩))
  · simp only [evsE, evE, upd_app, Nat.reduceEqDiff, ↓reduceIte]
  rintro rs H3 ⟨hS3, d0, d1, d2, S3, d8, d11, dB, dg⟩
  have hst : storeA H3 1 (.ptr 0 4) rs = some (List.set H3 0 (some (.row 29 [rj, .int .i64 q.next, .int .i64 q.now, osl 8 q.failed.length 5, rs, .bool q.resync]))) := by
    simp only [storeA_eq, d0, hS3.nt, hS3.cells]
    rfl
  refine ⟨rfl, vcE.ex (by simp (disch := first | assumption | omega | with_unfolding_all rfl) only [exC, List.drop_succ_cons, List.drop_zero, putE, exOps, exOp, wantedE, ↓reduceIte, ROp.run, evsE, evE, ty, Nat.reduceEqDiff, same, faddrA, Option.map_some, ↓hst]; rfl) ?_⟩
  have e0 := set_get (x := some (.row 29 [rj, .int .i64 q.next, .int .i64 q.now, osl 8 q.failed.length 5, rs, .bool q.resync])) d0
  have kp : ∀ {k : Nat} {y : Option Blk}, k ≠ 0 → H3[k]? = some y → (List.set H3 0 (some (.row 29 [rj, .int .i64 q.next, .int .i64 q.now, osl 8 q.failed.length 5, rs, .bool q.resync])))[k]? = some y := fun h1 h2 => by rw [set_get_ne (Ne.symm h1)]; exact h2
  have S4 := S3.keep (hp' := List.set H3 0 (some (.row 29 [rj, .int .i64 q.next, .int .i64 q.now, osl 8 q.failed.length 5, rs, .bool q.resync]))) (fun x h => kp (by omega) h)
  have S5 := hS3.keep (hp' := List.set H3 0 (some (.row 29 [rj, .int .i64 q.next, .int .i64 q.now, osl 8 q.failed.length 5, rs, .bool q.resync]))) (fun x h => kp (by omega) h)
  have d2 := kp (by omega) d2
  have d8 := kp (by omega) d8
  have d11 := kp (by omega) d11
  have dB2 : BldAt encJ (List.set H3 0 (some (.row 29 [rj, .int .i64 q.next, .int .i64 q.now, osl 8 q.failed.length 5, rs, .bool q.resync]))) gid 42 (q.jobs.filter (goes keep)) := by
    rcases dg with h | h
    · exact .inl h
    · exact dB.imp id fun h => kp (by omega) h
  clear hst kp d0 d1 dB S3 hS3 hdel2
  generalize List.set H3 0 (some (.row 29 [rj, .int .i64 q.next, .int .i64 q.now, osl 8 q.failed.length 5, rs, .bool q.resync])) = H4 at *
  have hob : oneA (bld gid (q.jobs.filter (goes keep)).length 10) = true := bld_one _ _ _
  have hst2 : storeA H4 6 (.ptr 2 0) (.agg [rj, .int .i64 q.next, .int .i64 q.now, osl 8 q.failed.length 5, rs, .bool q.resync]) = some (List.set H4 2 (some (.row 29 [rj, .int .i64 q.next, .int .i64 q.now, osl 8 q.failed.length 5, rs, .bool q.resync]))) := by
    simp only [storeA_eq, d2]
    rfl
  have g11 : (List.set H4 2 (some (.row 29 [rj, .int .i64 q.next, .int .i64 q.now, osl 8 q.failed.length 5, rs, .bool q.resync])))[11]? = some (some (.row 26 [bld gid (q.jobs.filter (goes keep)).length 10])) := by
    rw [set_get_ne (by omega)]; exact d11
  refine vcE.seq (vcE.forks (fun tm' hp' => tm' 4 = .ptr 2 0 ∧ tm' 5 = bld gid (q.jobs.filter (goes keep)).length 10 ∧ hp' = List.set H4 2 (some (.row 29 [rj, .int .i64 q.next, .int .i64 q.now, osl 8 q.failed.length 5, rs, .bool q.resync]))) ?_ ?_)
  · repeat' (first | with_reducible exact exTs_nil | with_reducible refine exT_fork ?_ | (with_reducible show exT _ _ _ (Tr.take _ _) _ _ _; refine exT_take rfl (by simp (disch := first | assumption | omega | with_unfolding_all rfl) only [exOp, wantedE, ↓reduceIte, ROp.run, evsE, evE, ty, Nat.reduceEqDiff, same, loadA, rowA, e0, pickA, List.length_cons, List.length_nil, Nat.reduceAdd, Nat.reduceLeDiff, List.drop_zero, List.take_succ_cons, List.take_zero, Option.map_some, putE, ↓hst2, g11, List.getElem?_cons_zero, hob]; rfl) ?_) | (with_reducible show exTs _ _ _ (_ :: _) _ _ _; refine exTs_cons rfl (by simp (disch := first | assumption | omega | with_unfolding_all rfl) only [exOp, wantedE, ↓reduceIte, ROp.run, evsE, evE, ty, Nat.reduceEqDiff, same, loadA, rowA, d11, pickA, List.getElem?_cons_zero, hob, Option.map_some, putE, ↓hst2]; rfl) ?_ ?_))
    all_goals (with_reducible refine exT_done ?_)
    all_goals refine ⟨?_, ?_, ?_⟩
    all_goals simp only [upd_app, Nat.reduceEqDiff, ↓reduceIte]
  · rintro tm hp' ⟨t4, t5, rfl⟩
    have kp2 : ∀ {k : Nat} {y : Option Blk}, k ≠ 2 → H4[k]? = some y → (List.set H4 2 (some (.row 29 [rj, .int .i64 q.next, .int .i64 q.now, osl 8 q.failed.length 5, rs, .bool q.resync])))[k]? = some y := fun h1 h2 => by rw [set_get_ne (Ne.symm h1)]; exact h2
    refine vcE.ex (by simp (disch := first | assumption | omega) only [exC]; rfl) ?_
    have e2 := set_get (x := some (.row 29 [rj, .int .i64 q.next, .int .i64 q.now, osl 8 q.failed.length 5, rs, .bool q.resync])) d2
    refine ⟨.tup [.agg [rj, .int .i64 q.next, .int .i64 q.now, osl 8 q.failed.length 5, rs, .bool q.resync], bld gid (q.jobs.filter (goes keep)).length 10], by simp only [resE, resEL, resE1, t4, t5, loadA, rowA, e2]; rfl, ?_⟩
    have f1 := (S4.keep (hp' := List.set H4 2 (some (.row 29 [rj, .int .i64 q.next, .int .i64 q.now, osl 8 q.failed.length 5, rs, .bool q.resync]))) (fun x h => kp2 (by omega) h)).fresh
    have f2 := (S5.keep (hp' := List.set H4 2 (some (.row 29 [rj, .int .i64 q.next, .int .i64 q.now, osl 8 q.failed.length 5, rs, .bool q.resync]))) (fun x h => kp2 (by omega) h)).fresh
    have f3 := oslA_fresh (kp2 (by omega) d8)
    have dB3 : BldAt encJ (List.set H4 2 (some (.row 29 [rj, .int .i64 q.next, .int .i64 q.now, osl 8 q.failed.length 5, rs, .bool q.resync]))) gid 42 (q.jobs.filter (goes keep)) := by
      rcases dg with h | h
      · exact .inl h
      · exact dB2.imp id fun h => kp2 (by omega) h
    have f4 := dB3.fresh
    simp only [fresh, freshL, f1, f2, f3]
    rw [show fresh _ (bld gid (q.jobs.filter (goes keep)).length 10) = _ from f4]
    simp only [Bool.not_not]
    rfl

end Go.Gi
