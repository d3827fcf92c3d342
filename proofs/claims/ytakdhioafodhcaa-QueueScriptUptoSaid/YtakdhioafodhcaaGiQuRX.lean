/- Queues: the reference's copy. -/
/- Queues: the references Pass, Clear, Send. -/
/- Queues: the reference Land. -/
/- Queues: the reference Put. -/
/- Queues: the references without, Reply. -/
/- Queues: the reference Withdraw. -/
/- Queues: the reference Withdraw, whole. -/
import Derived.Test.YtakdhioafodhcaaGiQuRE
set_option linter.unusedVariables false
set_option linter.unusedSimpArgs false
namespace Go.Gi
section
open Go Go.Proofs

/-- A copy's value: its slices lie in these blocks. -/
def ownVal (q : Que) (a b c : Nat) : AV := .agg [osl a q.jobs.length 10, .int .i64 q.next, .int .i64 q.now, osl b q.failed.length 5, osl c q.settled.length 5, .bool q.resync]
structure OwnAt (q : Que) (hp : HP) (a b c : Nat) : Prop where
  j : q.jobs = [] ∨ hp[a]? = some (some (.row 42 (encJ.cs q.jobs)))
  f : q.failed = [] ∨ hp[b]? = some (some (.row 23 (encA.cs q.failed)))
  s : q.settled = [] ∨ hp[c]? = some (some (.row 23 (encA.cs q.settled)))
  d : q.failed = [] ∨ q.settled = [] ∨ b ≠ c
theorem osl_rel {Γ Δ : Cx} {i j n sz : Nat} {v : Value} (hw : Δ.w = Γ.w) (hj : j < Δ.n) (hβ : Δ.β j = Γ.β i) (h : VRel Γ (osl i n sz) v) : VRel Δ (osl j n sz) v := by
  unfold osl at h ⊢
  split at h
  · rename_i h0
    rw [if_pos h0]
    simpa only [VRel] using h
  · rename_i h0
    rw [if_neg h0]
    simp only [VRel] at h ⊢
    rw [hβ, hw]
    exact ⟨hj, h.2⟩
theorem own_canon {P : Program} {f : FuncId} {xs : List AV} {q : Que} (h : ACalls P f xs [] fun r hp' => ∃ a b c, r = ownVal q a b c ∧ OwnAt q hp' a b c) : ACalls P f xs [] fun r hp' => r = cloneV q 0 ∧ hp' = cloneH q := by
  refine ⟨h.1, fun Γ vs hh hl hv => Calls.mono (h.2 Γ vs hh hl hv) ?_⟩
  rintro e w' ⟨v, r, hp', Δ, rfl, rfl, h3, h4, h5, a, b, c, rfl, o⟩
  have hΓn : Γ.n = 0 := hh.len.symm
  let Θ : Cx := { w := Δ.w, n := 8, β := fun i => if i = 3 then Δ.β a else if i = 5 then Δ.β b else Δ.β c, Fz := Δ.Fz, lc := Δ.lc, s0 := Δ.s0 }
  have b3 : Θ.β 3 = Δ.β a := rfl
  have b5 : Θ.β 5 = Δ.β b := rfl
  have b7 : Θ.β 7 = Δ.β c := rfl
  have cases8 : ∀ i x, (cloneH q)[i]? = some (some x) → (i = 3 ∧ x = .row 42 (encJ.cs q.jobs) ∧ hp'[a]? = some (some x)) ∨ (i = 5 ∧ x = .row 23 (encA.cs q.failed) ∧ hp'[b]? = some (some x) ∧ q.failed ≠ []) ∨ (i = 7 ∧ x = .row 23 (encA.cs q.settled) ∧ hp'[c]? = some (some x) ∧ q.settled ≠ []) := by
    intro i x hx
    have ro : ∀ {α : Type} {E : Enc α} {l : List α} {e : TypeId}, some (orow l.length e (E.cs l)) = some (some x) → l ≠ [] ∧ x = .row e (E.cs l) := by
      intro α E l e h
      unfold orow at h
      split at h
      · cases h
      · rename_i h0
        injection h with h
        injection h with h
        exact ⟨fun e => h0 (by rw [e]; rfl), h.symm⟩
    rcases i with _ | _ | _ | _ | _ | _ | _ | _ | i
    · cases hx
    · cases hx
    · cases hx
    · obtain ⟨h1, rfl⟩ := ro hx
      exact .inl ⟨rfl, rfl, o.j.resolve_left h1⟩
    · cases hx
    · obtain ⟨h1, rfl⟩ := ro hx
      exact .inr (.inl ⟨rfl, rfl, o.f.resolve_left h1, h1⟩)
    · cases hx
    · obtain ⟨h1, rfl⟩ := ro hx
      exact .inr (.inr ⟨rfl, rfl, o.s.resolve_left h1, h1⟩)
    · cases hx
  have cells : ∀ {p : Nat × Nat} {e : TypeId} {cs : List AV}, nidL cs = true → BRel Δ p (.row e cs) → BRel Θ p (.row e cs) := by
    intro p e cs hn hb
    simp only [BRel] at hb ⊢
    exact ⟨hb.1, (nidL_ok hn).get hb.2 rfl (fun _ h => h)⟩
  have src : ∀ i x, (cloneH q)[i]? = some (some x) → ∃ k, hp'[k]? = some (some x) ∧ Θ.β i = Δ.β k := by
    intro i x hx
    rcases cases8 i x hx with ⟨rfl, _, h⟩ | ⟨rfl, _, h, _⟩ | ⟨rfl, _, h, _⟩
    · exact ⟨a, h, b3⟩
    · exact ⟨b, h, b5⟩
    · exact ⟨c, h, b7⟩
  refine ⟨v, _, _, Θ, rfl, rfl, ?_, ⟨rfl, fun i x hx => ?_, fun i j x y hx hy he => ?_, h4.fz, h4.gl.same rfl fun _ h => h⟩, ⟨⟨by omega, fun i hi => by omega, h5.le.fz, h5.le.kept, h5.le.shape, h5.le.lc⟩, h5.os, h5.tape, h5.output, h5.size, h5.frame, fun k hk => ?_, h5.fz, h5.s0⟩, rfl, rfl⟩
  · simp only [ownVal, VRel, VRels] at h3
    obtain ⟨us, rfl, ⟨v1, _, rfl, r1, v2, _, rfl, r2, v3, _, rfl, r3, v4, _, rfl, r4, v5, _, rfl, r5, v6, _, rfl, r6, rfl⟩, h1⟩ := h3
    simp only [cloneV, VRel, VRels]
    exact ⟨_, rfl, ⟨_, _, rfl, osl_rel (Γ := Δ) (Δ := Θ) rfl (by show (3 : Nat) < 8; omega) b3 r1, _, _, rfl, r2, _, _, rfl, r3, _, _, rfl, osl_rel (Γ := Δ) (Δ := Θ) rfl (by show (5 : Nat) < 8; omega) b5 r4, _, _, rfl, osl_rel (Γ := Δ) (Δ := Θ) rfl (by show (7 : Nat) < 8; omega) b7 r5, _, _, rfl, r6, rfl⟩, h1⟩
  · obtain ⟨k, hk, hβ⟩ := src i x hx
    obtain ⟨k1, k2, k3⟩ := h4.blk k x hk
    rw [hβ]
    refine ⟨?_, k2, k3⟩
    rcases cases8 i x hx with ⟨_, rfl, _⟩ | ⟨_, rfl, _, _⟩ | ⟨_, rfl, _, _⟩
    · exact cells (encJ.cs_nid _) k1
    · exact cells (encA.cs_nid _) k1
    · exact cells (encA.cs_nid _) k1
  · rcases cases8 i x hx with ⟨rfl, rfl, hi⟩ | ⟨rfl, rfl, hi, ni⟩ | ⟨rfl, rfl, hi, ni⟩ <;> rcases cases8 j y hy with ⟨rfl, rfl, hj⟩ | ⟨rfl, rfl, hj, nj⟩ | ⟨rfl, rfl, hj, nj⟩
    · rfl
    · have := h4.inj _ _ _ _ hi hj he
      subst this
      rw [hi] at hj
      injection hj with hj
      injection hj with hj
      injection hj with hj
      cases hj
    · have := h4.inj _ _ _ _ hi hj he
      subst this
      rw [hi] at hj
      injection hj with hj
      injection hj with hj
      injection hj with hj
      cases hj
    · have := h4.inj _ _ _ _ hi hj he
      subst this
      rw [hi] at hj
      injection hj with hj
      injection hj with hj
      injection hj with hj
      cases hj
    · rfl
    · have := h4.inj _ _ _ _ hi hj he
      exact absurd this ((o.d.resolve_left ni).resolve_left nj)
    · have := h4.inj _ _ _ _ hi hj he
      subst this
      rw [hi] at hj
      injection hj with hj
      injection hj with hj
      injection hj with hj
      cases hj
    · have := h4.inj _ _ _ _ hi hj he
      exact absurd this.symm ((o.d.resolve_left nj).resolve_left ni)
    · rfl
  · obtain ⟨i, x, hx, rfl⟩ := hk
    obtain ⟨k, hk, hβ⟩ := src i x hx
    rw [hβ]
    exact h5.live _ ⟨k, x, hk, rfl⟩

def optH (e : TypeId) (n : Nat) (cs : List AV) : HP := if n = 0 then [] else [some (.row e cs)]
theorem esl_app {α : Type} (E : Enc α) (hp : HP) (l : List α) {e : TypeId} {bytes : Nat} (hb : l.length * bytes ≤ 140737488355328) (hn : l.length ≤ 9223372036854775807) : appA e E.sz bytes hp .esl (E.S l) = some (osl hp.length l.length E.sz, hp ++ optH e l.length (E.cs l)) := by
  simp only [appA, E.S_src, osl, optH]
  by_cases h : l.length = 0
  · rw [if_pos h, if_pos h, if_pos h, List.append_nil]
  · rw [if_neg h, if_neg h, if_neg h, if_pos ⟨hb, hn⟩]
theorem eslJ_app (hp : HP) {l : List Job} (h : l.length ≤ most) : appA 42 10 104 hp .esl (encJ.S l) = some (osl hp.length l.length 10, hp ++ optH 42 l.length (encJ.cs l)) := esl_app encJ hp l (by simp only [most] at h; omega) (by simp only [most] at h; omega)
theorem eslA_app (hp : HP) {l : List Act} (h : l.length ≤ most) : appA 23 5 72 hp .esl (encA.S l) = some (osl hp.length l.length 5, hp ++ optH 23 l.length (encA.cs l)) := esl_app encA hp l (by simp only [most] at h; omega) (by simp only [most] at h; omega)
theorem optH_get {α : Type} {E : Enc α} {l : List α} {e : TypeId} {xs ys : HP} {n : Nat} (hn : n = xs.length) : l = [] ∨ (xs ++ (optH e l.length (E.cs l) ++ ys))[n]? = some (some (.row e (E.cs l))) := by
  subst hn
  by_cases h : l.length = 0
  · exact .inl (List.eq_nil_of_length_eq_zero h)
  · right
    rw [optH, if_neg h, List.getElem?_append_right (Nat.le_refl _), Nat.sub_self]
    rfl
theorem optH_len {α : Type} {l : List α} (e : TypeId) (cs : List AV) (h : ¬ l = []) : (optH e l.length cs).length = 1 := by
  rw [optH, if_neg (fun h2 => h (List.eq_nil_of_length_eq_zero h2))]
  rfl

section
variable {α β γ : Type} {E : Enc α} {F : Enc β} {G : Enc γ} {l : List α} {m : List β} {n : List γ} {e f g : TypeId} {b0 b1 : Option Blk}
theorem own3a {ys : HP} : l = [] ∨ (b0 :: b1 :: (optH e l.length (E.cs l) ++ ys))[2]? = some (some (.row e (E.cs l))) := optH_get (xs := [b0, b1]) rfl
theorem own3b {xs ys : HP} : l = [] ∨ (b0 :: b1 :: (xs ++ (optH e l.length (E.cs l) ++ ys)))[List.length xs + 1 + 1]? = some (some (.row e (E.cs l))) := optH_get (xs := b0 :: b1 :: xs) rfl
theorem own3c {xs ys : HP} : l = [] ∨ (b0 :: b1 :: (xs ++ (ys ++ optH e l.length (E.cs l))))[List.length (xs ++ ys) + 1 + 1]? = some (some (.row e (E.cs l))) := by
  have := optH_get (E := E) (l := l) (e := e) (xs := b0 :: b1 :: (xs ++ ys)) (ys := []) (n := List.length (xs ++ ys) + 1 + 1) rfl
  rw [List.append_nil, List.cons_append, List.cons_append, List.append_assoc] at this
  exact this
end
theorem mOwn (q : Que) (hq : Fits q) (hp : HP) : ACalls Try.prog 32 [.agg q.c] hp fun r hp' => r = cloneV q hp.length ∧ hp' = hp ++ cloneH q := by
  have hx : NoIdL [.agg q.c] := nidL_ok (by simp only [nidL, nid, Que.c, Enc.S_nid, Bool.and_self])
  have e : (shiftA hp.length (cloneV q 0) = cloneV q hp.length) ∧ (cloneH q).map (shiftB hp.length) = cloneH q := by
    constructor
    · simp only [cloneV, shiftA, shiftL, shift_osl, Nat.zero_add, Nat.add_comm]
    · simp only [cloneH, List.map_cons, List.map_nil, Enc.shift_orow]
      rfl
  have hcl : True := trivial
  have hq0 : pickA none q.c 0 = some (encJ.S q.jobs) := rfl
  have hq3 : pickA none q.c (0 + 3) = some (encA.S q.failed) := rfl
  have hq4 : pickA none q.c (0 + 4) = some (encA.S q.settled) := rfl
  have hd : List.drop 1 q.c = [.int .i64 q.next, .int .i64 q.now, encA.S q.failed, encA.S q.settled, .bool q.resync] := rfl
  have aj := fun hp => eslJ_app hp hq.j
  have af := fun hp => eslA_app hp hq.f
  have as' := fun hp => eslA_app hp hq.s
  have := mk_of (hp0 := cloneH q) (r0 := cloneV q 0) hx (by simp only [cloneH, rowsOnly, Enc.rows_orow]) (own_canon (q := q) (calls_e hmG (TabOk.none _) comp32 (by decide) (by simp) ?_)) hp
  · rw [e.1, e.2] at this
    exact this
  · refine vcE.step (by simp (disch := first | assumption | omega | with_unfolding_all rfl) only [exC, exOps, exOp, wantedE, ↓reduceIte, ROp.run, evsE, evE, ty, List.getD_cons_zero, tz, List.length_nil, List.nil_append, putE, allocA, List.length_cons, List.cons_append]; rfl) (vcE.seq (vcE.forks (fun tm hp => tm 1 = .ptr 0 0 ∧ tm 2 = .ptr 1 0 ∧ ∃ a b c hp2, hp = some (.row 29 [osl a q.jobs.length 10, .int .i64 q.next, .int .i64 q.now, osl b q.failed.length 5, osl c q.settled.length 5, .bool q.resync]) :: some (.row 29 [.nils, .int .i64 0, .int .i64 0, .nils, .nils, .bool false]) :: hp2 ∧ OwnAt q hp a b c) ?_ ?_))
    · repeat' (first | with_reducible exact exTs_nil | with_reducible refine exT_fork ?_ | (with_reducible show exT _ _ _ (Tr.take _ _) _ _ _; refine exT_take rfl (by simp (disch := first | assumption | omega | with_unfolding_all rfl) only [exOp, wantedE, ↓reduceIte, ROp.run, bslA, evsE, ty, litV, putE, evE, Nat.reduceEqDiff, same, faddrA, Option.map_some, loadA, rowA, List.getElem?_cons_zero, ↓hq0, ↓hq3, ↓hq4, as', List.length_cons, List.cons_append, List.append_assoc, storeA_eq, List.length_nil, Que.c_len, Nat.reduceLeDiff, dec_true, over, List.take_zero, List.nil_append, hd, List.set_cons_zero, Nat.reduceAdd, List.take_succ_cons, List.drop_succ_cons, List.drop_zero, af, aj]; rfl) ?_) | (with_reducible show exTs _ _ _ (_ :: _) _ _ _; refine exTs_cons rfl (by simp (disch := first | assumption | omega | with_unfolding_all rfl) only [exOp, wantedE, ↓reduceIte, ROp.run, evsE, evE, ty, Nat.reduceEqDiff, aj, List.length_cons, List.length_nil, Nat.reduceAdd, List.cons_append, List.nil_append, putE, af, same, loadA, rowA, List.getElem?_cons_zero, ↓hq4, Option.map_some, ↓hq3]; rfl) ?_ ?_))
      all_goals (with_reducible refine exT_done ?_)
      all_goals refine ⟨by simp only [upd_app, Nat.reduceEqDiff, ↓reduceIte], by simp only [upd_app, Nat.reduceEqDiff, ↓reduceIte], _, _, _, _, rfl, ⟨?_, ?_, ?_, ?_⟩⟩
      all_goals try (first | exact own3a | exact own3b | exact own3c)
      all_goals
        by_cases hf : q.failed = []
        · exact .inl hf
        by_cases hs : q.settled = []
        · exact .inr (.inl hs)
        refine .inr (.inr ?_)
        have h1 := optH_len 23 (encA.cs q.failed) hf
        have h2 := optH_len 23 (encA.cs q.settled) hs
        simp only [List.length_append]
        omega
    · rintro tm hp ⟨t1, t2, a, b, c, hp2, rfl, o⟩
      have pz : ∀ x y z u v w, pickA (some 6) [x, y, z, u, v, w] 0 = some (.agg [x, y, z, u, v, w]) := fun _ _ _ _ _ _ => rfl
      refine vcE.ex (by simp (disch := first | assumption | omega | with_unfolding_all rfl) only [exC, exOps, exOp, wantedE, ↓reduceIte, ROp.run, evsE, evE, t1, same, loadA, rowA, List.getElem?_cons_zero, ↓pz, Option.map_some, putE, ty, Nat.reduceEqDiff, t2, storeA_eq, List.getElem?_cons_succ, tz, List.length_cons, List.length_nil, Nat.reduceAdd, Nat.reduceLeDiff, dec_true, over, List.take_zero, List.nil_append, List.drop_succ_cons, List.drop_nil, List.append_nil, List.set_cons_succ, List.set_cons_zero]; rfl) ?_
      refine ⟨ownVal q a b c, ?_, a, b, c, rfl, ?_⟩
      · simp only [resE, resEL, resE1, upd_app, Nat.reduceEqDiff, ↓reduceIte, t2, loadA, rowA, List.getElem?_cons_zero, List.getElem?_cons_succ, pz]
        rfl
      · obtain ⟨o1, o2, o3, o4⟩ := o
        have up : ∀ {x : Blk} {i : Nat} {p : Prop} {e : TypeId} {cs r : List AV}, (p ∨ (some (.row 29 r) :: some (.row 29 [.nils, .int .i64 0, .int .i64 0, .nils, .nils, .bool false]) :: hp2 : HP)[i]? = some (some x)) → (∀ r', x ≠ .row 29 r') → p ∨ (some (.row 29 r) :: some (.row 29 cs) :: hp2 : HP)[i]? = some (some x) := by
          intro x i p e cs r h hx
          refine h.imp id fun h => ?_
          rcases i with _ | _ | i
          · exact h
          · simp only [List.getElem?_cons_succ, List.getElem?_cons_zero, Option.some.injEq] at h
            exact absurd h.symm (hx _)
          · exact h
        exact ⟨up (e := 0) o1 (by simp), up (e := 0) o2 (by simp), up (e := 0) o3 (by simp), o4⟩
end
section
open Go Go.Proofs

def TRA : Tab := TR0.addO 32 (.cons .que .nil) fun p => if Fits p.1 then some (.mk fun n => (cloneV p.1 n, cloneH p.1)) else none
theorem TRA_ok : TabOk Try.prog TRA := by
  refine TabOk.addO TR0_ok ?_
  intro p r h
  split at h
  · rename_i hv; cases h; exact fun hp => mOwn p.1 hv hp
  · cases h
theorem TRA_own {q : Que} (h : Fits q) : TRA 32 [.agg q.c] = some (.mk fun n => (cloneV q n, cloneH q)) :=
  (Tab.addO_self _ _ (.cons .que .nil) _ (q, ())).trans (if_pos h)
theorem TRA_ne {g : FuncId} {xs : List AV} (h : Nat.beq g 32 = false) : TRA g xs = TR0 g xs := Tab.addO_ne _ _ _ _ h _

theorem rPass (q : Que) (hq : Fits q) (n : Int) (h1 : 0 ≤ q.now) (h2 : q.now ≤ 1152921504606846976) : PCF Try.prog 80 [.agg q.c, .int .i64 n] (.tup [.agg (q.pass n).1.c, .int .i64 (q.pass n).2]) := by
  refine pcf_e hmG TRA_ok comp80 (by decide) (by simp) (nidL_ok (by rw [nidL, queN]; rfl)) ?_
  have hcl := TRA_own hq
  have hone := osl_one
  have hnt := osl_notTup
  have hce := osl_cells
  unfold Que.pass
  by_cases hn : n < 0
  · refine vcE.ex (by simp (disch := first | assumption | omega) only [exC, exOps, exOp, wantedE, ↓reduceIte, ROp.run, evsE, evE, ty, List.getD_cons_zero, tz, List.length_nil, List.nil_append, putE, allocA, List.length_cons, List.cons_append, Nat.reduceEqDiff, same, loadA, rowA, List.getElem?_cons_zero, ↓pickQ, Option.map_some, List.append_nil, frzL, frz_agg, queL_frz, hcl, cloneV, cloneH, Cls.makes, callCls, nidL, queL_nid, Nat.reduceAdd, storeA_eq, Que.c_len, Nat.reduceLeDiff, decide_true, over, List.take_zero, List.set_cons_zero, List.getD_cons_succ, binA, intA, dec_true, beq_iff_eq, pickA, List.drop_zero, List.take_succ_cons, List.getElem?_cons_succ, List.drop_succ_cons, List.drop_nil, List.set_cons_succ]; rfl) ?_
    refine ⟨_, rfl, ?_⟩
    (simp (disch := first | assumption | with_unfolding_all rfl) only [upd_app, Nat.reduceEqDiff, ↓reduceIte, fresh_tup, freshL, fresh_agg, fresh_int, fresh_bool, fresh_str, List.take_succ_cons, List.take_zero, List.drop_succ_cons, List.drop_zero, start_app, List.getD_cons_zero, List.getD_cons_succ, oslJ_fresh, oslA_fresh, hn, true_or, if_true])
    rfl
  by_cases hn2 : 1000000 < n
  · refine vcE.ex (by simp (disch := first | assumption | omega) only [exC, exOps, exOp, wantedE, ↓reduceIte, ROp.run, evsE, evE, ty, List.getD_cons_zero, tz, List.length_nil, List.nil_append, putE, allocA, List.length_cons, List.cons_append, Nat.reduceEqDiff, same, loadA, rowA, List.getElem?_cons_zero, ↓pickQ, Option.map_some, List.append_nil, frzL, frz_agg, queL_frz, hcl, cloneV, cloneH, Cls.makes, callCls, nidL, queL_nid, Nat.reduceAdd, storeA_eq, Que.c_len, Nat.reduceLeDiff, decide_true, over, List.take_zero, List.set_cons_zero, List.getD_cons_succ, binA, intA, dec_false, beq_self_eq_true, gt_iff_lt, dec_true, pickA, List.drop_zero, List.take_succ_cons, List.getElem?_cons_succ, List.drop_succ_cons, List.drop_nil, List.set_cons_succ]; rfl) ?_
    refine ⟨_, rfl, ?_⟩
    (simp (disch := first | assumption | with_unfolding_all rfl) only [upd_app, Nat.reduceEqDiff, ↓reduceIte, fresh_tup, freshL, fresh_agg, fresh_int, fresh_bool, fresh_str, List.take_succ_cons, List.take_zero, List.drop_succ_cons, List.drop_zero, start_app, List.getD_cons_zero, List.getD_cons_succ, oslJ_fresh, oslA_fresh, hn2, or_true, if_true])
    rfl
  have hw : IntKind.wrap .i64 (1152921504606846976 - n) = 1152921504606846976 - n := wrap_i64 (by omega) (by omega)
  have hor : ¬ (n < 0 ∨ 1000000 < n) := by omega
  by_cases hn3 : 1152921504606846976 - n < q.now
  · refine vcE.ex (by simp (disch := first | assumption | omega) only [exC, exOps, exOp, wantedE, ↓reduceIte, ROp.run, evsE, evE, ty, List.getD_cons_zero, tz, List.length_nil, List.nil_append, putE, allocA, List.length_cons, List.cons_append, Nat.reduceEqDiff, same, loadA, rowA, List.getElem?_cons_zero, ↓pickQ, Option.map_some, List.append_nil, frzL, frz_agg, queL_frz, hcl, cloneV, cloneH, Cls.makes, callCls, nidL, queL_nid, Nat.reduceAdd, storeA_eq, Que.c_len, Nat.reduceLeDiff, decide_true, over, List.take_zero, List.set_cons_zero, List.getD_cons_succ, binA, intA, dec_false, beq_self_eq_true, gt_iff_lt, faddrA, pickA, List.getElem?_cons_succ, hw, dec_true, List.drop_zero, List.take_succ_cons, List.drop_succ_cons, List.drop_nil, List.set_cons_succ]; rfl) ?_
    refine ⟨_, rfl, ?_⟩
    (simp (disch := first | assumption | with_unfolding_all rfl) only [upd_app, Nat.reduceEqDiff, ↓reduceIte, fresh_tup, freshL, fresh_agg, fresh_int, fresh_bool, fresh_str, List.take_succ_cons, List.take_zero, List.drop_succ_cons, List.drop_zero, start_app, List.getD_cons_zero, List.getD_cons_succ, oslJ_fresh, oslA_fresh, hor, hn3, if_false, if_true])
    rfl
  · have hw2 : IntKind.wrap .i64 (q.now + n) = q.now + n := wrap_i64 (by omega) (by omega)
    refine vcE.ex (by simp (disch := first | assumption | omega) only [exC, exOps, exOp, wantedE, ↓reduceIte, ROp.run, evsE, evE, ty, List.getD_cons_zero, tz, List.length_nil, List.nil_append, putE, allocA, List.length_cons, List.cons_append, Nat.reduceEqDiff, same, loadA, rowA, List.getElem?_cons_zero, ↓pickQ, Option.map_some, List.append_nil, frzL, frz_agg, queL_frz, hcl, cloneV, cloneH, Cls.makes, callCls, nidL, queL_nid, Nat.reduceAdd, storeA_eq, Que.c_len, Nat.reduceLeDiff, decide_true, over, List.take_zero, List.set_cons_zero, List.getD_cons_succ, binA, intA, dec_false, beq_self_eq_true, gt_iff_lt, faddrA, pickA, List.getElem?_cons_succ, hw, hw2, List.take_succ_cons, List.drop_succ_cons, List.drop_zero, List.drop_nil, List.set_cons_succ]; rfl) ?_
    refine ⟨_, rfl, ?_⟩
    (simp (disch := first | assumption | with_unfolding_all rfl) only [upd_app, Nat.reduceEqDiff, ↓reduceIte, fresh_tup, freshL, fresh_agg, fresh_int, fresh_bool, fresh_str, List.take_succ_cons, List.take_zero, List.drop_succ_cons, List.drop_zero, start_app, List.getD_cons_zero, List.getD_cons_succ, oslJ_fresh, oslA_fresh, hor, hn3, if_false])
    rfl
theorem rClear (q : Que) (hq : Fits q) : PCF Try.prog 83 [.agg q.c] (.agg q.clear.c) := by
  refine pcf_e hmG TRA_ok comp83 (by decide) (by simp) (nidL_ok (by rw [nidL, queN]; rfl)) ?_
  have hcl := TRA_own hq
  refine vcE.ex (by simp (disch := first | assumption | omega) only [exC, exOps, exOp, wantedE, ↓reduceIte, ROp.run, evsE, evE, ty, List.getD_cons_zero, tz, List.length_nil, List.nil_append, putE, allocA, List.length_cons, List.cons_append, Nat.reduceEqDiff, same, loadA, rowA, List.getElem?_cons_zero, ↓pickQ, Option.map_some, List.append_nil, frzL, frz_agg, queL_frz, hcl, cloneV, cloneH, Cls.makes, callCls, nidL, queL_nid, Nat.reduceAdd, storeA_eq, Que.c_len, Nat.reduceLeDiff, decide_true, over, List.take_zero, List.set_cons_zero, faddrA, List.take_succ_cons, List.drop_succ_cons, List.drop_zero, pickA, List.getElem?_cons_succ, List.drop_nil, List.set_cons_succ]; rfl) ?_
  refine ⟨_, rfl, ?_⟩
  (simp (disch := first | assumption | with_unfolding_all rfl) only [upd_app, Nat.reduceEqDiff, ↓reduceIte, fresh_tup, freshL, fresh_agg, fresh_int, fresh_bool, fresh_str, List.take_succ_cons, List.take_zero, List.drop_succ_cons, List.drop_zero, start_app, List.getD_cons_zero, List.getD_cons_succ, oslJ_fresh, fresh_nils])
  rfl

theorem rSend (q : Que) (hq : Fits q) (t : Int) : PCF Try.prog 78 [.agg q.c, .int .i64 t] (.tup [.agg (q.send t).1.c, .int .i64 (q.send t).2]) := by
  refine pcf_e hmG TRA_ok comp78 (by decide) (by simp) (nidL_ok (by rw [nidL, queN]; rfl)) ?_
  have hcl := TRA_own hq
  have hat : TRA 85 [.agg [encJ.S q.jobs, .int .i64 q.next, .int .i64 q.now, encA.S q.failed, encA.S q.settled, .bool q.resync], .int .i64 t] = _ := (TRA_ne rfl).trans (TR0_place hq.j t)
  have hfl : TRA 76 [.agg [encJ.S q.jobs, .int .i64 q.next, .int .i64 q.now, encA.S q.failed, encA.S q.settled, .bool q.resync]] = _ := (TRA_ne rfl).trans (TR0_flying hq.j)
  have hjl := hq.j
  simp only [most] at hjl
  have hg : ∀ x y : Int, (x ≥ y) = (y ≤ x) := fun _ _ => rfl
  have hg2 : ∀ x y : Int, (x > y) = (y < x) := fun _ _ => rfl
  rw [idx_place] at hat
  cases hp : place q.jobs t with
  | none =>
    rw [hp] at hat
    rw [send_none hp]
    refine vcE.ex (by simp (disch := first | assumption | omega | with_unfolding_all rfl) only [exC, exOps, exOp, wantedE, ↓reduceIte, ROp.run, evsE, evE, ty, List.getD_cons_zero, tz, List.length_nil, List.nil_append, putE, allocA, List.length_cons, List.cons_append, Nat.reduceEqDiff, same, loadA, rowA, List.getElem?_cons_zero, ↓pickQ, Option.map_some, List.append_nil, frzL, frz_agg, queL_frz, hcl, cloneV, cloneH, Cls.makes, callCls, nidL, queL_nid, Nat.reduceAdd, storeA_eq, Que.c_len, Nat.reduceLeDiff, decide_true, over, List.take_zero, dropQ, List.set_cons_zero, pickA, List.drop_zero, List.take_succ_cons, List.getD_cons_succ, oslJ_frz, oslA_frz, hat, Cls.isFree, binA, intA, dec_true, List.getElem?_cons_succ, List.drop_succ_cons, List.drop_nil, List.set_cons_succ]; rfl) ?_
    refine ⟨_, rfl, ?_⟩
    (simp (disch := first | assumption | with_unfolding_all rfl) only [upd_app, Nat.reduceEqDiff, ↓reduceIte, fresh_tup, freshL, fresh_agg, fresh_int, fresh_bool, fresh_str, List.take_succ_cons, List.take_zero, List.drop_succ_cons, List.drop_zero, start_app, List.getD_cons_zero, List.getD_cons_succ, oslJ_fresh, oslA_fresh])
    rfl
  | some i =>
    rw [hp] at hat
    rw [send_some hp]
    obtain ⟨hi, _, hj⟩ := place_some hp
    generalize q.jobs.getD i .zero = j at *
    have hso : ∀ id, osl id q.jobs.length 10 = .sl id 0 q.jobs.length 10 q.jobs.length false := fun id => osl_pos (by omega)
    have hro : orow q.jobs.length 42 (encJ.cs q.jobs) = some (.row 42 (encJ.cs q.jobs)) := orow_pos (by omega)
    have hneg : ¬ ((i : Int) < 0) := by omega
    have p6 : pickA none j.c 6 = some (.bool j.fly) := rfl
    have p7 : pickA none j.c 7 = some (.bool j.doubt) := rfl
    have p9 : pickA none j.c 9 = some (.int .i64 j.at_) := rfl
    refine vcE.step (by simp (disch := first | assumption | omega | with_unfolding_all rfl) only [exC, exOps, exOp, wantedE, ↓reduceIte, ROp.run, evsE, evE, ty, List.getD_cons_zero, tz, List.length_nil, List.nil_append, putE, allocA, List.length_cons, List.cons_append]; rfl) (vcE.step (by simp (disch := first | assumption | omega | with_unfolding_all rfl) only [exC, exOps, exOp, wantedE, ↓reduceIte, ROp.run, evsE, evE, ty, Nat.reduceEqDiff, same, loadA, rowA, List.getElem?_cons_zero, ↓pickQ, Option.map_some, putE, List.append_nil, frzL, frz_agg, queL_frz, hcl, cloneV, cloneH, Cls.makes, callCls, nidL, tz, queL_nid, List.length_cons, List.length_nil, Nat.reduceAdd, List.cons_append, List.nil_append, storeA_eq, Que.c_len, Nat.reduceLeDiff, decide_true, over, List.take_zero, dropQ, List.set_cons_zero]; rfl) (vcE.step (by simp (disch := first | assumption | omega | with_unfolding_all rfl) only [exC, exOps, exOp, wantedE, ↓reduceIte, ROp.run, evsE, evE, hso, ty, Nat.reduceEqDiff, same, hro, loadA, rowA, List.getElem?_cons_zero, pickA, List.length_cons, List.length_nil, Nat.reduceAdd, Nat.reduceLeDiff, List.drop_zero, List.take_succ_cons, List.take_zero, Option.map_some, putE, List.getD_cons_succ, List.getD_cons_zero, List.append_nil, frzL, frz_agg, ↓slJ_frz, tz, oslA_frz, hat, Cls.isFree, callCls, nidL]; rfl) (vcE.step (by simp (disch := first | assumption | omega | with_unfolding_all rfl) only [exC, exOps, exOp, wantedE, ↓reduceIte, ROp.run, evsE, evE, ty, putE, same, binA, intA, hneg, decide_false, Option.map_some]; rfl) ?_)))
    unfold Job.waits
    cases hf : j.fly <;> rw [hf] at p6
    · cases hd : j.doubt <;> rw [hd] at p7
      · by_cases hn : q.now < j.at_
        · refine vcE.ex (by simp (disch := first | assumption | omega | with_unfolding_all rfl) only [exC, chain, ordered, List.getElem?_cons_zero, List.getElem?_cons_succ, exOps, exOp, wantedE, ↓reduceIte, ROp.run, evsE, evE, ty, Nat.reduceEqDiff, same, faddrA, Option.map_some, putE, loadA, rowA, pickA, tz, ↓iaddrJ, ↓slJ_part, ↓p6, beq_self_eq_true, ↓p7, unA, ↓p9, binA, intA, hg2, hn, decide_true, beq_iff_eq, cond_true, List.length_cons, List.length_nil, Nat.reduceAdd, Nat.reduceLeDiff, List.drop_zero, List.take_succ_cons, List.take_zero, storeA_eq, over, List.nil_append, List.drop_succ_cons, List.drop_nil, List.append_nil, List.set_cons_succ, List.set_cons_zero]; rfl) ?_
          refine ⟨_, rfl, ?_⟩
          (simp (disch := first | assumption | with_unfolding_all rfl) only [List.drop_zero, List.take_succ_cons, List.take_zero, upd_app, ↓reduceIte, fresh_tup, freshL, fresh_agg, slJ_fresh, fresh_int, oslA_fresh, fresh_bool, Bool.not_false, Bool.and_self, hn, decide_true, Bool.false_or, Bool.true_or])
          rfl
        · by_cases h4 : 4 ≤ flyers q.jobs
          · refine vcE.ex (by simp (disch := first | assumption | omega | with_unfolding_all rfl) only [exC, chain, ordered, List.getElem?_cons_zero, List.getElem?_cons_succ, exOps, exOp, wantedE, ↓reduceIte, ROp.run, evsE, evE, ty, Nat.reduceEqDiff, same, faddrA, Option.map_some, putE, loadA, rowA, pickA, tz, ↓iaddrJ, ↓slJ_part, ↓p6, beq_self_eq_true, ↓p7, unA, ↓p9, binA, intA, hg2, hn, decide_false, List.length_cons, List.length_nil, Nat.reduceAdd, Nat.reduceLeDiff, List.drop_zero, List.take_succ_cons, List.take_zero, List.append_nil, frzL, frz_agg, ↓slJ_frz, oslA_frz, hfl, Cls.isFree, callCls, nidL, hg, dec_true, cond_true, storeA_eq, decide_true, over, List.nil_append, List.drop_succ_cons, List.drop_nil, List.set_cons_succ, List.set_cons_zero]; rfl) ?_
            refine ⟨_, rfl, ?_⟩
            (simp (disch := first | assumption | with_unfolding_all rfl) only [List.drop_zero, List.take_succ_cons, List.take_zero, upd_app, ↓reduceIte, fresh_tup, freshL, fresh_agg, slJ_fresh, fresh_int, oslA_fresh, fresh_bool, Bool.not_false, Bool.and_self, hn, decide_false, Bool.and_false, Bool.false_or, h4, decide_true])
            rfl
          · refine vcE.ex (by simp (disch := first | assumption | omega | with_unfolding_all rfl) only [exC, chain, ordered, List.getElem?_cons_zero, List.getElem?_cons_succ, exOps, exOp, wantedE, ↓reduceIte, ROp.run, evsE, evE, ty, Nat.reduceEqDiff, same, faddrA, Option.map_some, putE, loadA, rowA, pickA, tz, ↓iaddrJ, ↓slJ_part, ↓p6, beq_self_eq_true, ↓p7, unA, ↓p9, binA, intA, hg2, hn, decide_false, List.length_cons, List.length_nil, Nat.reduceAdd, Nat.reduceLeDiff, List.drop_zero, List.take_succ_cons, List.take_zero, List.append_nil, frzL, frz_agg, ↓slJ_frz, oslA_frz, hfl, Cls.isFree, callCls, nidL, hg, dec_false, cond_true, ↓slJ_fly, List.set_cons_succ, List.set_cons_zero, storeA_eq, decide_true, over, List.nil_append, List.drop_succ_cons, List.drop_nil]; rfl) ?_
            refine ⟨_, rfl, ?_⟩
            (simp (disch := first | assumption | with_unfolding_all rfl) only [List.drop_zero, List.take_succ_cons, List.take_zero, upd_app, ↓reduceIte, fresh_tup, freshL, fresh_agg, ↓slJset_fresh, fresh_int, oslA_fresh, fresh_bool, Bool.not_false, Bool.and_self, hn, decide_false, Bool.and_false, Bool.false_or, h4, Bool.false_eq_true])
            rfl
      · by_cases h4 : 4 ≤ flyers q.jobs
        · refine vcE.ex (by simp (disch := first | assumption | omega | with_unfolding_all rfl) only [exC, chain, ordered, List.getElem?_cons_zero, List.getElem?_cons_succ, exOps, exOp, wantedE, ↓reduceIte, ROp.run, evsE, evE, ty, Nat.reduceEqDiff, same, faddrA, Option.map_some, putE, loadA, rowA, pickA, tz, ↓iaddrJ, ↓slJ_part, ↓p6, beq_self_eq_true, ↓p7, unA, beq_iff_eq, List.length_cons, List.length_nil, Nat.reduceAdd, Nat.reduceLeDiff, List.drop_zero, List.take_succ_cons, List.take_zero, List.append_nil, frzL, frz_agg, ↓slJ_frz, oslA_frz, hfl, Cls.isFree, callCls, nidL, binA, intA, hg, dec_true, cond_true, storeA_eq, decide_true, over, List.nil_append, List.drop_succ_cons, List.drop_nil, List.set_cons_succ, List.set_cons_zero]; rfl) ?_
          refine ⟨_, rfl, ?_⟩
          (simp (disch := first | assumption | with_unfolding_all rfl) only [List.drop_zero, List.take_succ_cons, List.take_zero, upd_app, ↓reduceIte, fresh_tup, freshL, fresh_agg, slJ_fresh, fresh_int, oslA_fresh, fresh_bool, Bool.not_true, Bool.and_false, Bool.false_and, Bool.false_or, h4, decide_true])
          rfl
        · refine vcE.ex (by simp (disch := first | assumption | omega | with_unfolding_all rfl) only [exC, chain, ordered, List.getElem?_cons_zero, List.getElem?_cons_succ, exOps, exOp, wantedE, ↓reduceIte, ROp.run, evsE, evE, ty, Nat.reduceEqDiff, same, faddrA, Option.map_some, putE, loadA, rowA, pickA, tz, ↓iaddrJ, ↓slJ_part, ↓p6, beq_self_eq_true, ↓p7, unA, beq_iff_eq, List.length_cons, List.length_nil, Nat.reduceAdd, Nat.reduceLeDiff, List.drop_zero, List.take_succ_cons, List.take_zero, List.append_nil, frzL, frz_agg, ↓slJ_frz, oslA_frz, hfl, Cls.isFree, callCls, nidL, binA, intA, hg, dec_false, cond_true, ↓slJ_fly, List.set_cons_succ, List.set_cons_zero, storeA_eq, decide_true, over, List.nil_append, List.drop_succ_cons, List.drop_nil]; rfl) ?_
          refine ⟨_, rfl, ?_⟩
          (simp (disch := first | assumption | with_unfolding_all rfl) only [List.drop_zero, List.take_succ_cons, List.take_zero, upd_app, ↓reduceIte, fresh_tup, freshL, fresh_agg, ↓slJset_fresh, fresh_int, oslA_fresh, fresh_bool, Bool.not_true, Bool.and_false, Bool.false_and, Bool.false_or, h4, decide_false, Bool.false_eq_true])
          rfl
    · refine vcE.ex (by simp (disch := first | assumption | omega | with_unfolding_all rfl) only [exC, chain, ordered, List.getElem?_cons_zero, List.getElem?_cons_succ, exOps, exOp, wantedE, ↓reduceIte, ROp.run, evsE, evE, ty, Nat.reduceEqDiff, same, faddrA, Option.map_some, putE, loadA, rowA, pickA, tz, ↓iaddrJ, ↓slJ_part, ↓p6, beq_iff_eq, cond_true, List.length_cons, List.length_nil, Nat.reduceAdd, Nat.reduceLeDiff, List.drop_zero, List.take_succ_cons, List.take_zero, storeA_eq, decide_true, over, List.nil_append, List.drop_succ_cons, List.drop_nil, List.append_nil, List.set_cons_succ, List.set_cons_zero]; rfl) ?_
      refine ⟨_, rfl, ?_⟩
      (simp (disch := first | assumption | with_unfolding_all rfl) only [upd_app, Nat.reduceEqDiff, ↓reduceIte, fresh_tup, freshL, fresh_agg, fresh_int, fresh_bool, fresh_str, List.take_succ_cons, List.take_zero, List.drop_succ_cons, List.drop_zero, start_app, List.getD_cons_zero, List.getD_cons_succ, slJ_fresh, oslA_fresh, Bool.true_or, if_true])
      rfl
end
section
open Go Go.Proofs

theorem rLand (q : Que) (hq : Fits q) : PCF Try.prog 82 [.agg q.c] (.agg q.land.c) := by
  refine pcf_e hmG TRA_ok comp82 (by decide) (by simp) (nidL_ok (by rw [nidL, queN]; rfl)) ?_
  have hcl := TRA_own hq
  have hjl := hq.j
  simp only [most] at hjl
  by_cases h0 : q.jobs.length = 0
  · have hj0 := List.eq_nil_of_length_eq_zero h0
    have he : q.land = q := by
      unfold Que.land
      rw [hj0, List.map_nil, ← hj0]
    rw [he]
    refine vcE.step (by simp (disch := first | assumption | omega | with_unfolding_all rfl) only [exC, exOps, exOp, wantedE, ↓reduceIte, ROp.run, evsE, evE, ty, List.getD_cons_zero, tz, List.length_nil, List.nil_append, putE, allocA, List.length_cons, List.cons_append]; rfl) (vcE.step (by simp (disch := first | assumption | omega | with_unfolding_all rfl) only [exC, exOps, exOp, wantedE, ↓reduceIte, ROp.run, evsE, evE, ty, Nat.reduceEqDiff, same, loadA, rowA, List.getElem?_cons_zero, ↓pickQ, Option.map_some, putE, List.append_nil, frzL, frz_agg, queL_frz, hcl, cloneV, cloneH, Cls.makes, callCls, nidL, tz, queL_nid, List.length_cons, List.length_nil, Nat.reduceAdd, List.cons_append, List.nil_append, storeA_eq, Que.c_len, Nat.reduceLeDiff, decide_true, over, List.take_zero, dropQ, List.set_cons_zero]; rfl) (vcE.then (fun e tm hp => e = .normal ∧ tm 1 = .ptr 0 0 ∧ tm 2 = .ptr 1 0 ∧ hp = [some (.row 29 [osl 5 q.jobs.length 10, .int .i64 q.next, .int .i64 q.now, osl 7 q.failed.length 5, osl 9 q.settled.length 5, .bool q.resync]), some (.row 29 [.nils, .int .i64 0, .int .i64 0, .nils, .nils, .bool false]), none, none, none, orow q.jobs.length 42 (encJ.cs q.jobs), none, orow q.failed.length 23 (encA.cs q.failed), none, orow q.settled.length 23 (encA.cs q.settled)]) ?_ ?_))
    · refine vcE.step (by simp (disch := first | assumption | omega | with_unfolding_all rfl) only [exC, exOps, exOp, wantedE, ↓reduceIte, ROp.run, evsE, evE, putE]; rfl) (vcE.block (vcE.count (by intro l tm hp h; simp at h) (fun i tm hp' => hp' = _ ∧ tm 1 = .ptr 0 0 ∧ tm 2 = .ptr 1 0 ∧ tm 3 = .int .i64 i) 0 ⟨rfl, rfl, rfl, rfl⟩ (by intro i tm hp hi; omega) ?_))
      rintro tm hp ⟨rfl, t1, t2, t3⟩
      refine vcE.ex (by simp (disch := first | assumption | omega | with_unfolding_all rfl) only [exC, exOps, exOp, wantedE, ↓reduceIte, ROp.run, evsE, evE, t3, h0, putE, ty, Nat.reduceEqDiff, t1, same, faddrA, Option.map_some, loadA, rowA, List.getElem?_cons_zero, pickA, binA, intA, dec_false]; rfl) ?_
      refine ⟨rfl, ?_, ?_, ?_⟩
      · simp only [upd_app, Nat.reduceEqDiff, ↓reduceIte, t1]
      · simp only [upd_app, Nat.reduceEqDiff, ↓reduceIte, t2]
      · rw [h0]
    · rintro e tm hp ⟨rfl, t1, t2, rfl⟩
      refine vcE.ex (by simp (disch := first | assumption | omega | with_unfolding_all rfl) only [exC, exOps, exOp, wantedE, ↓reduceIte, ROp.run, evsE, evE, t1, same, loadA, rowA, List.getElem?_cons_zero, pickA, ty, List.length_cons, List.length_nil, Nat.reduceAdd, Nat.reduceLeDiff, List.drop_zero, List.take_succ_cons, List.take_zero, Option.map_some, putE, Nat.reduceEqDiff, t2, storeA_eq, List.getElem?_cons_succ, tz, decide_true, over, List.nil_append, List.drop_succ_cons, List.drop_nil, List.append_nil, List.set_cons_succ, List.set_cons_zero]; rfl) ?_
      refine ⟨_, by simp only [resE, resEL, resE1, upd_app, Nat.reduceEqDiff, ↓reduceIte, t2]; rfl, ?_⟩
      (simp (disch := first | assumption | with_unfolding_all rfl) only [upd_app, Nat.reduceEqDiff, ↓reduceIte, fresh_tup, freshL, fresh_agg, fresh_int, fresh_bool, fresh_str, List.take_succ_cons, List.take_zero, List.drop_succ_cons, List.drop_zero, start_app, List.getD_cons_zero, List.getD_cons_succ, oslJ_fresh, oslA_fresh, t2])
      rfl
  · have hso : ∀ id, osl id q.jobs.length 10 = .sl id 0 q.jobs.length 10 q.jobs.length false := fun id => osl_pos (by omega)
    have hro : orow q.jobs.length 42 (encJ.cs q.jobs) = some (.row 42 (encJ.cs q.jobs)) := orow_pos (by omega)
    refine vcE.step (by simp (disch := first | assumption | omega | with_unfolding_all rfl) only [exC, exOps, exOp, wantedE, ↓reduceIte, ROp.run, evsE, evE, ty, List.getD_cons_zero, tz, List.length_nil, List.nil_append, putE, allocA, List.length_cons, List.cons_append]; rfl) (vcE.step (by simp (disch := first | assumption | omega | with_unfolding_all rfl) only [exC, exOps, exOp, wantedE, ↓reduceIte, ROp.run, evsE, evE, ty, Nat.reduceEqDiff, same, loadA, rowA, List.getElem?_cons_zero, ↓pickQ, Option.map_some, putE, List.append_nil, frzL, frz_agg, queL_frz, hcl, cloneV, hso, cloneH, hro, Cls.makes, callCls, nidL, tz, queL_nid, List.length_cons, List.length_nil, Nat.reduceAdd, List.cons_append, List.nil_append, storeA_eq, Que.c_len, Nat.reduceLeDiff, decide_true, over, List.take_zero, dropQ, List.set_cons_zero]; rfl) (vcE.then (fun e tm hp => e = .normal ∧ tm 1 = .ptr 0 0 ∧ tm 2 = .ptr 1 0 ∧ hp = [some (.row 29 [.sl 5 0 q.jobs.length 10 q.jobs.length false, .int .i64 q.next, .int .i64 q.now, osl 7 q.failed.length 5, osl 9 q.settled.length 5, .bool q.resync]), some (.row 29 [.nils, .int .i64 0, .int .i64 0, .nils, .nils, .bool false]), none, none, none, some (.row 42 (encJ.cs (q.jobs.map landJ))), none, orow q.failed.length 23 (encA.cs q.failed), none, orow q.settled.length 23 (encA.cs q.settled)]) ?_ ?_))
    · refine vcE.step (by simp (disch := first | assumption | omega | with_unfolding_all rfl) only [exC, exOps, exOp, wantedE, ↓reduceIte, ROp.run, evsE, evE, putE]; rfl) (vcE.block (vcE.count (by intro l tm hp h; simp at h) (fun i tm hp' => tm 1 = .ptr 0 0 ∧ tm 2 = .ptr 1 0 ∧ tm 3 = .int .i64 i ∧ hp' = [some (.row 29 [.sl 5 0 q.jobs.length 10 q.jobs.length false, .int .i64 q.next, .int .i64 q.now, osl 7 q.failed.length 5, osl 9 q.settled.length 5, .bool q.resync]), some (.row 29 [.nils, .int .i64 0, .int .i64 0, .nils, .nils, .bool false]), none, none, none, some (.row 42 (encJ.cs (landed q.jobs i))), none, orow q.failed.length 23 (encA.cs q.failed), none, orow q.settled.length 23 (encA.cs q.settled)]) q.jobs.length ⟨rfl, rfl, rfl, ?_⟩ ?_ ?_))
      · rw [landed_zero]
      · rintro i tm hp hi ⟨t1, t2, t3, rfl⟩
        obtain ⟨j, hj⟩ : ∃ j, q.jobs[i]? = some j := ⟨_, List.getElem?_eq_getElem hi⟩
        have hlj := landed_get hj
        have hst := landed_step hj
        have hll := landed_len q.jobs i
        generalize landed q.jobs i = L at *
        have hw : IntKind.wrap .i64 ((i : Int) + 1) = (i : Int) + 1 := wrap_i64 (by omega) (by omega)
        have p6 : pickA none j.c 6 = some (.bool j.fly) := rfl
        cases hf : j.fly <;> rw [hf] at p6
        · have hsame : landJ j = j := by
            obtain ⟨x, a, f, d, n, m⟩ := j
            simp only at hf
            subst hf
            simp [landJ]
          rw [hsame] at hst
          have hset : L.set i j = L := by
            apply List.ext_getElem?
            intro k
            rw [List.getElem?_set]
            by_cases hik : i = k
            · subst hik
              rw [if_pos rfl, if_pos (by omega), hlj]
            · rw [if_neg hik]
          rw [hset] at hst
          refine vcE.ex (by simp (disch := first | assumption | omega | with_unfolding_all rfl) only [exC, exOps, exOp, wantedE, ↓reduceIte, ROp.run, evsE, evE, t3, putE, ty, Nat.reduceEqDiff, t1, same, faddrA, Option.map_some, loadA, rowA, List.getElem?_cons_zero, pickA, tz, lenFits, lenA, binA, intA, dec_true, ↓iaddrJ, ↓slJ_part, ↓p6, hw]; rfl) ?_
          refine ⟨?_, ?_, ?_, ?_⟩
          · simp only [upd_app, Nat.reduceEqDiff, ↓reduceIte, t1]
          · simp only [upd_app, Nat.reduceEqDiff, ↓reduceIte, t2]
          · simp only [upd_app, Nat.reduceEqDiff, ↓reduceIte]; rfl
          · rw [hst]
        · refine vcE.step (by simp (disch := first | assumption | omega | with_unfolding_all rfl) only [exC, exOps, exOp, wantedE, ↓reduceIte, ROp.run, evsE, evE, t3, putE, ty, Nat.reduceEqDiff, t1, same, faddrA, Option.map_some, loadA, rowA, List.getElem?_cons_zero, pickA, tz, lenFits, lenA, binA, intA, dec_true]; rfl) ?_
          refine vcE.seq (vcE.block ?_)
          refine vcE.step (by simp (disch := first | assumption | omega | with_unfolding_all rfl) only [exC, exOps, exOp, wantedE, ↓reduceIte, ROp.run, evsE, evE, ty, Nat.reduceEqDiff, t1, same, faddrA, Option.map_some, putE, loadA, rowA, List.getElem?_cons_zero, pickA, tz, t3, ↓iaddrJ, ↓slJ_part, ↓p6]; rfl) (vcE.condTrue (by simp only [evE, upd_app, Nat.reduceEqDiff, ↓reduceIte]) ?_)
          refine vcE.forks (fun tm hp => tm 1 = .ptr 0 0 ∧ tm 2 = .ptr 1 0 ∧ tm 3 = .int .i64 i ∧ hp = [some (.row 29 [.sl 5 0 q.jobs.length 10 q.jobs.length false, .int .i64 q.next, .int .i64 q.now, osl 7 q.failed.length 5, osl 9 q.settled.length 5, .bool q.resync]), some (.row 29 [.nils, .int .i64 0, .int .i64 0, .nils, .nils, .bool false]), none, none, none, some (.row 42 (encJ.cs (landed q.jobs (i + 1)))), none, orow q.failed.length 23 (encA.cs q.failed), none, orow q.settled.length 23 (encA.cs q.settled)]) ?_ ?_
          · obtain ⟨x, a, f, d, n, m⟩ := j
            simp only at hf
            subst hf
            have hs2 : (L.set i ⟨x, a, false, d, n, m⟩)[i]? = some ⟨x, a, false, d, n, m⟩ := by
              rw [List.getElem?_set]; simp; omega
            repeat' (first | with_reducible exact exTs_nil | with_reducible refine exT_fork ?_ | (with_reducible show exT _ _ _ (Tr.take _ _) _ _ _; refine exT_take rfl (by simp (disch := first | assumption | omega | with_unfolding_all rfl) only [exOp, wantedE, ↓reduceIte, ROp.run, evsE, evE, ty, Nat.reduceEqDiff, t1, same, faddrA, Option.map_some, putE, loadA, rowA, List.getElem?_cons_zero, pickA, tz, t3, ↓iaddrJ, ↓slJ_fly, List.set_cons_succ, List.set_cons_zero, ↓slJ_doubt, List.set_set]; rfl) ?_) | (with_reducible show exTs _ _ _ (_ :: _) _ _ _; refine exTs_cons rfl (by simp (disch := first | assumption | omega | with_unfolding_all rfl) only [exOp, wantedE, ↓reduceIte, ROp.run, evsE, evE, ty, Nat.reduceEqDiff, same, loadA, rowA, List.getElem?_cons_zero, pickA, tz, Option.map_some, putE, ↓slJ_fly, List.set_cons_succ, List.set_cons_zero]; rfl) ?_ ?_))
            all_goals (with_reducible refine exT_done ?_)
            all_goals refine ⟨?_, ?_, ?_, ?_⟩
            all_goals first | (simp only [upd_app, Nat.reduceEqDiff, ↓reduceIte, t1, t2, t3]; done) | (rw [← hst]; simp only [landJ, Bool.or_true]; done)
          · rintro tm' hp' ⟨k1, k2, k3, rfl⟩
            refine vcE.ex (by simp (disch := first | assumption | omega | with_unfolding_all rfl) only [exC, exOps, exOp, wantedE, ↓reduceIte, ROp.run, evsE, evE, k3, putE, ty, same, binA, intA, hw, Option.map_some]; rfl) ?_
            refine ⟨?_, ?_, ?_, rfl⟩
            · simp only [upd_app, Nat.reduceEqDiff, ↓reduceIte, k1]
            · simp only [upd_app, Nat.reduceEqDiff, ↓reduceIte, k2]
            · simp only [upd_app, Nat.reduceEqDiff, ↓reduceIte]; rfl
      · rintro tm hp ⟨t1, t2, t3, rfl⟩
        refine vcE.ex (by simp (disch := first | assumption | omega | with_unfolding_all rfl) only [exC, exOps, exOp, wantedE, ↓reduceIte, ROp.run, evsE, evE, t3, putE, ty, Nat.reduceEqDiff, t1, same, faddrA, Option.map_some, loadA, rowA, List.getElem?_cons_zero, pickA, tz, lenFits, lenA, binA, intA, dec_false]; rfl) ?_
        refine ⟨rfl, ?_, ?_, by rw [landed_all]⟩
        · simp only [upd_app, Nat.reduceEqDiff, ↓reduceIte, t1]
        · simp only [upd_app, Nat.reduceEqDiff, ↓reduceIte, t2]
    · rintro e tm hp ⟨rfl, t1, t2, rfl⟩
      refine vcE.ex (by simp (disch := first | assumption | omega | with_unfolding_all rfl) only [exC, exOps, exOp, wantedE, ↓reduceIte, ROp.run, evsE, evE, t1, same, loadA, rowA, List.getElem?_cons_zero, pickA, ty, List.length_cons, List.length_nil, Nat.reduceAdd, Nat.reduceLeDiff, List.drop_zero, List.take_succ_cons, List.take_zero, Option.map_some, putE, Nat.reduceEqDiff, t2, storeA_eq, List.getElem?_cons_succ, tz, decide_true, over, List.nil_append, List.drop_succ_cons, List.drop_nil, List.append_nil, List.set_cons_succ, List.set_cons_zero]; rfl) ?_
      refine ⟨_, by simp only [resE, resEL, resE1, upd_app, Nat.reduceEqDiff, ↓reduceIte, t2]; rfl, ?_⟩
      have hlm : (q.jobs.map landJ).length = q.jobs.length := List.length_map _
      (simp (disch := first | assumption | with_unfolding_all rfl) only [upd_app, Nat.reduceEqDiff, ↓reduceIte, fresh_tup, freshL, fresh_agg, fresh_int, fresh_bool, fresh_str, List.take_succ_cons, List.take_zero, List.drop_succ_cons, List.drop_zero, start_app, List.getD_cons_zero, List.getD_cons_succ, ↓slJn_frz, oslA_fresh, t2])
      rfl
end
section
open Go Go.Proofs

theorem pre_eq {H hp : HP} (h : ∀ j, j < H.length → hp[j]? = H[j]?) (hl : H.length ≤ hp.length) : ∃ t, hp = H ++ t := by
  refine ⟨hp.drop H.length, ?_⟩
  have : hp.take H.length = H := by
    apply List.ext_getElem?
    intro j
    rw [List.getElem?_take]
    by_cases hj : j < H.length
    · rw [if_pos hj, h j hj]
    · rw [if_neg hj, List.getElem?_eq_none (by omega)]
  conv => lhs; rw [← List.take_append_drop H.length hp, this]
/-- Appending two lists to an empty slice that is written out. -/
theorem two_app {α : Type} (E : Enc α) (H : HP) {e : TypeId} {bytes : Nat} (l m : List α) {x y : AV} (hx : ∀ t, srcA (H ++ t) E.sz x = some (E.cs l, l.length)) (hy : ∀ t, srcA (H ++ t) E.sz y = some (E.cs m, m.length)) (hb : (l.length + m.length) * bytes ≤ 140737488355328) (hn : l.length + m.length ≤ 9223372036854775807) :
    ∃ v1 t1 v2 t2, appA e E.sz bytes (H ++ [some (.row e [])]) (.sl H.length 0 0 E.sz 0 true) x = some (v1, H ++ t1) ∧ appA e E.sz bytes (H ++ t1) v1 y = some (v2, H ++ t2) ∧ OwnS E (H ++ t2) v2 e (l ++ m) := by
  have h1 : appA e E.sz bytes (H ++ [some (.row e [])]) (.sl H.length 0 0 E.sz 0 true) x = some (ownV E.sz l.length H.length, H ++ ownH e l.length (E.cs l)) := by
    by_cases h0 : l.length = 0
    · simp only [appA, hx, ownV, ownH, h0, if_true]
    · have hg : (H ++ [some (Blk.row e [])])[H.length]? = some (some (.row e [])) := by simp
      have hb' : l.length * bytes ≤ 140737488355328 := Nat.le_trans (Nat.mul_le_mul_right _ (Nat.le_add_right _ _)) hb
      simp only [appA, hx, hg, ownV, ownH]
      rw [if_neg h0, if_neg h0, if_neg h0, if_pos (by simp), if_neg (by omega), if_pos (by rw [Nat.zero_add]; exact ⟨hb', by omega⟩), if_pos trivial]
      simp
  obtain ⟨v2, hp2, k1, k2, k3, k4, _⟩ := ownV_app E H (e := e) l (m := m) (bytes := bytes) (x := y) (hy _) hb hn
  obtain ⟨t2, rfl⟩ := pre_eq k3 k4
  exact ⟨_, _, v2, t2, h1, k1, k2⟩

theorem any_acts (q : Que) (a : Act) : q.acts.any (fun b => a.alike b) = (q.jobs.any (fun j => j.act.alike a) || (q.failed ++ q.settled).any fun b => b.alike a) := by
  simp only [Que.acts, List.any_append, List.any_map, Function.comp_def, alike_symm a]
theorem any_take_succ {α : Type} {p : α → Bool} {l : List α} {i : Nat} {a : α} (h : l[i]? = some a) : (l.take (i + 1)).any p = ((l.take i).any p || p a) := by
  simp [List.take_add_one, h]
theorem any_hit {α : Type} {p : α → Bool} {l : List α} {i : Nat} {a : α} (h : l[i]? = some a) (ha : p a = true) : l.any p = true := List.any_eq_true.2 ⟨a, List.mem_of_getElem? h, ha⟩
theorem slJ_act {hp : HP} {id i : Nat} {l : List Job} {j : Job} (h : hp[id]? = some (some (.row 42 (encJ.cs l)))) (hj : l[i]? = some j) : loadA hp (some 5) (.ptr id (i * 10 + 1)) = some (.agg j.act.c) := by
  simp only [loadA, rowA, h]
  exact encJ_act hj

/-- The memory of Put behind the copy. -/
abbrev putH (q : Que) (a : Act) (t : HP) : HP := some (.row 29 [osl 6 q.jobs.length 10, .int .i64 q.next, .int .i64 q.now, osl 8 q.failed.length 5, osl 10 q.settled.length 5, .bool q.resync]) :: some (.row 23 a.c) :: some (.row 29 [.nils, .int .i64 0, .int .i64 0, .nils, .nils, .bool false]) :: none :: none :: none :: orow q.jobs.length 42 (encJ.cs q.jobs) :: none :: orow q.failed.length 23 (encA.cs q.failed) :: none :: orow q.settled.length 23 (encA.cs q.settled) :: t

theorem slA_load {hp : HP} {id i : Nat} {l : List Act} {x : Act} (h : hp[id]? = some (some (.row 23 (encA.cs l)))) (hj : l[i]? = some x) : loadA hp (some 5) (.ptr id (i * 5)) = some (.agg x.c) := encA.sl_load h hj
theorem iaddrA5 {id len lo i : Nat} {ex : Bool} (h : i < len) : iaddrA 5 (.sl id 0 len 5 lo ex) (.int .i64 (i : Int)) = some (.ptr id (i * 5)) := by
  rw [iaddr_sl h, Nat.zero_add]
def putV (q : Que) (a : Act) : AV := .tup [.agg (q.put a).1.c, .int .i64 (q.put a).2.1, .int .i64 (q.put a).2.2]
theorem putV_known {q : Que} {a : Act} (h : a.known = false) : putV q a = .tup [.agg q.c, .int .i64 0, .int .i64 2] := by
  unfold putV Que.put
  rw [if_pos h]
theorem putV_twice {q : Que} {a : Act} (h : a.known = true) (h2 : q.acts.any (fun b => a.alike b) = true) : putV q a = .tup [.agg q.c, .int .i64 0, .int .i64 8] := by
  unfold putV Que.put
  rw [if_neg (by rw [h]; simp), if_pos h2]
theorem putV_full {q : Que} {a : Act} (h : a.known = true) (h2 : q.acts.any (fun b => a.alike b) = false) (h3 : 32 ≤ q.jobs.length ∨ 1152921504606846976 ≤ q.next) : putV q a = .tup [.agg ({ q with resync := true } : Que).c, .int .i64 0, .int .i64 13] := by
  unfold putV Que.put
  rw [if_neg (by rw [h]; simp), if_neg (by rw [h2]; simp), if_pos h3]
theorem putV_ok {q : Que} {a : Act} (h : a.known = true) (h2 : q.acts.any (fun b => a.alike b) = false) (h3 : ¬ (32 ≤ q.jobs.length ∨ 1152921504606846976 ≤ q.next)) : putV q a = .tup [.agg ({ q with jobs := q.jobs ++ [⟨q.next, a, false, false, 0, q.now⟩], next := q.next + 1 } : Que).c, .int .i64 q.next, .int .i64 0] := by
  unfold putV Que.put
  rw [if_neg (by rw [h]; simp), if_neg (by rw [h2]; simp), if_neg h3]

/-- What is left of Put where there is room. -/
theorem put_tail {hint : Nat → Nat} {q : Que} (hq : Fits q) {a : Act} (h1 : 0 ≤ q.next) (h2 : q.next ≤ 1152921504606846976) {r : AV} (hr : r = .tup [.agg ({ q with jobs := q.jobs ++ [⟨q.next, a, false, false, 0, q.now⟩], next := q.next + 1 } : Que).c, .int .i64 q.next, .int .i64 0]) {tm : Env} {hp : HP} (t2 : tm 2 = .ptr 0 0) (t3 : tm 3 = .ptr 1 0) (t4 : tm 4 = .ptr 2 0)
    (g0 : hp[0]? = some (some (.row 29 [osl 6 q.jobs.length 10, .int .i64 q.next, .int .i64 q.now, osl 8 q.failed.length 5, osl 10 q.settled.length 5, .bool q.resync]))) (g1 : hp[1]? = some (some (.row 23 a.c))) (g2 : hp[2]? = some (some (.row 29 [.nils, .int .i64 0, .int .i64 0, .nils, .nils, .bool false]))) (g6 : hp[6]? = some (orow q.jobs.length 42 (encJ.cs q.jobs))) (g8 : hp[8]? = some (orow q.failed.length 23 (encA.cs q.failed))) (g10 : hp[10]? = some (orow q.settled.length 23 (encA.cs q.settled))) :
    vcE Try.prog hint TRA 83 (IC.seq (IC.reg r77_18) (IC.seq (IC.reg r77_19) (IC.seq (IC.regD .wild r77_20 (.take 0 (.take 1 (.fork [(2, .take 3 (.take 4 (.take 5 (.take 6 (.done))))), (4, .take 2 (.take 3 (.take 5 (.take 6 (.done)))))])))) IC.ret))) tm hp (RetE [.cell 4 (some 6), .t 5, .t 6] fun r' hp' => fresh hp' r' = some r) := by
  have hcl : True := trivial
  have hjl := hq.j
  simp only [most] at hjl
  have pa5 : pickA (some 5) a.c 0 = some (.agg a.c) := rfl
  have hw : IntKind.wrap .i64 (q.next + 1) = q.next + 1 := wrap_i64 (by omega) (by omega)
  have hw2 : IntKind.wrap .i64 (q.next + 1 - 1) = q.next := by rw [wrap_i64 (by omega) (by omega)]; omega
  have hlt := get_lt g10
  obtain ⟨n, hp3, happ, g0', g2', g8', g10', gn, hn⟩ : ∃ n hp3, appA 42 10 104 (hp ++ [some (.row 42 (Job.c ⟨q.next, a, false, false, 0, q.now⟩))]) (osl 6 q.jobs.length 10) (.sl hp.length 0 1 10 1 true) = some (.sl n 0 (q.jobs.length + 1) 10 (q.jobs.length + 1) false, hp3) ∧ hp3[0]? = hp[0]? ∧ hp3[2]? = hp[2]? ∧ hp3[8]? = hp[8]? ∧ hp3[10]? = hp[10]? ∧ hp3[n]? = some (some (.row 42 (encJ.cs (q.jobs ++ [⟨q.next, a, false, false, 0, q.now⟩])))) ∧ 10 < n := by
    refine ⟨_, _, oslJ_app (j := ⟨q.next, a, false, false, 0, q.now⟩) (app_get g6) (by simp) (by omega), ?_, ?_, ?_, ?_, ?_, ?_⟩
    · rw [List.getElem?_append_left (by simp), List.getElem?_set_ne (by omega), List.getElem?_append_left (by omega)]
    · rw [List.getElem?_append_left (by simp; omega), List.getElem?_set_ne (by omega), List.getElem?_append_left (by omega)]
    · rw [List.getElem?_append_left (by simp; omega), List.getElem?_set_ne (by omega), List.getElem?_append_left (by omega)]
    · rw [List.getElem?_append_left (by simp; omega), List.getElem?_set_ne (by omega), List.getElem?_append_left (by omega)]
    · rw [List.getElem?_append_right (by simp)]; simp
    · simp; omega
  rw [g0] at g0'
  rw [g2] at g2'
  rw [g8] at g8'
  rw [g10] at g10'
  have s0 : ∀ x, (hp3.set 0 x)[0]? = some x := fun x => set_get g0'
  have s2 : ∀ x, (hp3.set 0 x)[2]? = hp3[2]? := fun x => set_get_ne (by omega)
  have s20 : ∀ x y, ((hp3.set 0 x).set 2 y)[0]? = some x := fun x y => (set_get_ne (by omega)).trans (s0 x)
  refine vcE.step (by simp (disch := first | assumption | omega | with_unfolding_all rfl) only [exC, exOps, exOp, wantedE, ↓reduceIte, ROp.run, evsE, evE, t2, same, faddrA, ty, Option.map_some, putE, loadA, rowA, g0, pickA, List.getElem?_cons_zero, Nat.reduceEqDiff, List.getElem?_cons_succ, tz, t3, g1, ↓pa5, List.length_cons, List.length_nil, Nat.reduceAdd, job_new, bslA, Job.c_len, beq_self_eq_true, flatA, List.flatMap_cons, List.flatMap_nil, List.append_nil, happ, storeA_eq, g0', Nat.reduceLeDiff, dec_true, over, List.take_zero, List.nil_append, List.drop_succ_cons, List.drop_zero, List.cons_append]; rfl) (vcE.step (by simp (disch := first | assumption | omega | with_unfolding_all rfl) only [exC, exOps, exOp, wantedE, ↓reduceIte, ROp.run, evsE, evE, ty, Nat.reduceEqDiff, t2, same, faddrA, Option.map_some, putE, loadA, rowA, s0, pickA, List.getElem?_cons_succ, List.getElem?_cons_zero, tz, binA, intA, hw, storeA_eq, List.length_cons, List.length_nil, Nat.reduceAdd, Nat.reduceLeDiff, dec_true, over, List.take_succ_cons, List.take_zero, List.cons_append, List.nil_append, List.drop_succ_cons, List.drop_zero, List.set_set]; rfl) ?_)
  refine vcE.seq (vcE.forks (fun tm hp => ∃ Y, Y = some (.row 29 [.sl n 0 (q.jobs.length + 1) 10 (q.jobs.length + 1) false, .int .i64 (q.next + 1), .int .i64 q.now, osl 8 q.failed.length 5, osl 10 q.settled.length 5, .bool q.resync]) ∧ hp = (hp3.set 0 Y).set 2 Y ∧ tm 4 = .ptr 2 0 ∧ tm 5 = .int .i64 q.next ∧ tm 6 = .int .i64 0) ?_ ?_)
  · repeat' (first | with_reducible exact exTs_nil | with_reducible refine exT_fork ?_ | (with_reducible show exT _ _ _ (Tr.take _ _) _ _ _; refine exT_take rfl (by simp (disch := first | assumption | omega | with_unfolding_all rfl) only [exOp, wantedE, ↓reduceIte, ROp.run, evsE, evE, ty, Nat.reduceEqDiff, t2, same, loadA, rowA, s0, pickA, List.length_cons, List.length_nil, Nat.reduceAdd, Nat.reduceLeDiff, List.drop_zero, List.take_succ_cons, List.take_zero, Option.map_some, putE, faddrA, binA, intA, hw2, t4, storeA_eq, s2, g2', tz, dec_true, over, List.nil_append, List.drop_succ_cons, List.drop_nil, List.append_nil, s20, List.getElem?_cons_succ, List.getElem?_cons_zero]; rfl) ?_) | (with_reducible show exTs _ _ _ (_ :: _) _ _ _; refine exTs_cons rfl (by simp (disch := first | assumption | omega | with_unfolding_all rfl) only [exOp, wantedE, ↓reduceIte, ROp.run, evsE, evE, ty, same, loadA, rowA, s0, pickA, List.getElem?_cons_succ, List.getElem?_cons_zero, tz, Option.map_some, putE, Nat.reduceEqDiff, t4, storeA_eq, s2, g2', List.length_cons, List.length_nil, Nat.reduceAdd, Nat.reduceLeDiff, dec_true, over, List.take_zero, List.nil_append, List.drop_succ_cons, List.drop_nil, List.append_nil]; rfl) ?_ ?_))
    all_goals (with_reducible refine exT_done ?_)
    all_goals refine ⟨_, rfl, rfl, ?_, ?_, ?_⟩
    all_goals simp only [upd_app, Nat.reduceEqDiff, ↓reduceIte, t4]
  clear t2 t3 t4
  rintro tm hp' ⟨Y, hY, rfl, t4, t5, t6⟩
  refine vcE.ex (by simp (disch := first | assumption | omega | with_unfolding_all rfl) only [exC]; rfl) ?_
  have hl2 : 2 < hp3.length := get_lt g2'
  have e2 : ((hp3.set 0 Y).set 2 Y)[2]? = some Y := by
    rw [List.getElem?_set_self (by rw [List.length_set]; exact hl2)]
  have oth : ∀ k, k ≠ 0 → k ≠ 2 → ((hp3.set 0 Y).set 2 Y)[k]? = hp3[k]? := fun k k0 k2 => by
    rw [List.getElem?_set_ne (by omega), List.getElem?_set_ne (by omega)]
  have en := (oth n (by omega) (by omega)).trans gn
  have e8 := (oth 8 (by omega) (by omega)).trans g8'
  have e10 := (oth 10 (by omega) (by omega)).trans g10'
  rw [hr]
  generalize (hp3.set 0 Y).set 2 Y = H at *
  rw [hY] at e2
  refine ⟨.tup [.agg [.sl n 0 (q.jobs.length + 1) 10 (q.jobs.length + 1) false, .int .i64 (q.next + 1), .int .i64 q.now, osl 8 q.failed.length 5, osl 10 q.settled.length 5, .bool q.resync], .int .i64 q.next, .int .i64 0], ?_, ?_⟩
  · simp only [resE, resEL, resE1, upd_app, Nat.reduceEqDiff, ↓reduceIte, t4, t5, t6, loadA, rowA, e2, pickA]
    rfl
  · (simp (disch := first | assumption | with_unfolding_all rfl) only [upd_app, Nat.reduceEqDiff, ↓reduceIte, fresh_tup, freshL, fresh_agg, fresh_int, fresh_bool, fresh_str, List.take_succ_cons, List.take_zero, List.drop_succ_cons, List.drop_zero, start_app, List.getD_cons_zero, List.getD_cons_succ, slJ1_fresh, oslA_fresh])
    rfl

theorem rPut (q : Que) (hq : Fits q) (a : Act) (h1 : 0 ≤ q.next) (h2 : q.next ≤ 1152921504606846976) : PCF Try.prog 77 [.agg q.c, .agg a.c] (putV q a) := by
  refine pcf_e hmG TRA_ok comp77 (by decide) (by simp) (nidL_ok (by rw [nidL, queN]; rfl)) ?_
  have hcl := TRA_own hq
  have hkn : TRA 75 [.int .i64 a.kind] = some (.rd true (.bool a.known)) := (TRA_ne rfl).trans (TR0_known a.kind)
  have hal : ∀ b : Act, TRA 39 [.agg b.c, .agg a.c] = some (.rd true (.bool (b.alike a))) := fun b => (TRA_ne rfl).trans (TR0_alike b a)
  have hjl := hq.j
  have hfl := hq.f
  have hsl := hq.s
  simp only [most] at hjl hfl hsl
  have pa0 : pickA none a.c 0 = some (.int .i64 a.kind) := rfl
  have hg : ∀ x y : Int, (x ≥ y) = (y ≤ x) := fun _ _ => rfl
  refine vcE.step (by simp (disch := first | assumption | omega | with_unfolding_all rfl) only [exC, exOps, exOp, wantedE, ↓reduceIte, ROp.run, evsE, evE, ty, List.getD_cons_zero, tz, List.length_nil, List.nil_append, putE, Nat.reduceEqDiff, List.getD_cons_succ, List.length_cons, List.cons_append, allocA, Nat.reduceAdd]; rfl) (vcE.step (by simp (disch := first | assumption | omega | with_unfolding_all rfl) only [exC, exOps, exOp, wantedE, ↓reduceIte, ROp.run, evsE, evE, ty, Nat.reduceEqDiff, same, loadA, rowA, List.getElem?_cons_zero, ↓pickQ, Option.map_some, putE, List.append_nil, frzL, frz_agg, queL_frz, hcl, cloneV, cloneH, Cls.makes, callCls, nidL, tz, queL_nid, List.length_cons, List.length_nil, Nat.reduceAdd, List.cons_append, List.nil_append, storeA_eq, Que.c_len, Nat.reduceLeDiff, decide_true, over, List.take_zero, dropQ, List.set_cons_zero]; rfl) ?_)
  cases hk : a.known <;> rw [hk] at hkn
  · rw [putV_known hk]
    refine vcE.ex (by simp (disch := first | assumption | omega | with_unfolding_all rfl) only [exC, exOps, exOp, wantedE, ↓reduceIte, ROp.run, evsE, evE, ty, Nat.reduceEqDiff, same, faddrA, Option.map_some, putE, loadA, rowA, List.getElem?_cons_succ, List.getElem?_cons_zero, ↓pa0, List.append_nil, frzL, tz, hkn, Cls.isFree, callCls, nidL, unA, pickA, List.length_cons, List.length_nil, Nat.reduceAdd, Nat.reduceLeDiff, List.drop_zero, List.take_succ_cons, List.take_zero, storeA_eq, decide_true, over, List.nil_append, List.drop_succ_cons, List.drop_nil, List.set_cons_succ, List.set_cons_zero]; rfl) ?_
    refine ⟨_, rfl, ?_⟩
    (simp (disch := first | assumption | with_unfolding_all rfl) only [upd_app, Nat.reduceEqDiff, ↓reduceIte, fresh_tup, freshL, fresh_agg, fresh_int, fresh_bool, fresh_str, List.take_succ_cons, List.take_zero, List.drop_succ_cons, List.drop_zero, start_app, List.getD_cons_zero, List.getD_cons_succ, oslJ_fresh, oslA_fresh])
    rfl
  refine vcE.step (by simp (disch := first | assumption | omega | with_unfolding_all rfl) only [exC, exOps, exOp, wantedE, ↓reduceIte, ROp.run, evsE, evE, ty, Nat.reduceEqDiff, same, faddrA, Option.map_some, putE, loadA, rowA, List.getElem?_cons_succ, List.getElem?_cons_zero, ↓pa0, List.append_nil, frzL, tz, hkn, Cls.isFree, callCls, nidL, unA]; rfl) ?_
  have any1 := any_acts q a
  have fin : ∀ {tm : Env} {t : HP} {x y : Int} {r : List AV} {b : Bool}, putV q a = .tup [.agg ({ q with resync := b } : Que).c, .int .i64 x, .int .i64 y] → tm 4 = .ptr 2 0 → tm 5 = .int .i64 x → tm 6 = .int .i64 y → RetE [.cell 4 (some 6), .t 5, .t 6] (fun r' hp' => fresh hp' r' = some (putV q a)) .ret tm (some (.row 29 [osl 6 q.jobs.length 10, .int .i64 q.next, .int .i64 q.now, osl 8 q.failed.length 5, osl 10 q.settled.length 5, .bool b]) :: some (.row 23 a.c) :: some (.row 29 [osl 6 q.jobs.length 10, .int .i64 q.next, .int .i64 q.now, osl 8 q.failed.length 5, osl 10 q.settled.length 5, .bool b]) :: none :: none :: none :: orow q.jobs.length 42 (encJ.cs q.jobs) :: none :: orow q.failed.length 23 (encA.cs q.failed) :: none :: orow q.settled.length 23 (encA.cs q.settled) :: t) := by
    intro tm t x y r b hv t4 t5 t6
    rw [hv]
    refine ⟨_, by simp only [resE, resEL, resE1, upd_app, Nat.reduceEqDiff, ↓reduceIte, t4, t5, t6]; rfl, ?_⟩
    (simp (disch := first | assumption | with_unfolding_all rfl) only [upd_app, Nat.reduceEqDiff, ↓reduceIte, fresh_tup, freshL, fresh_agg, fresh_int, fresh_bool, fresh_str, List.take_succ_cons, List.take_zero, List.drop_succ_cons, List.drop_zero, start_app, List.getD_cons_zero, List.getD_cons_succ, oslJ_fresh, oslA_fresh])
    rfl
  refine vcE.then (fun e tm hp => (e = .ret ∧ ∃ t, hp = (putH q a t).set 2 (some (.row 29 [osl 6 q.jobs.length 10, .int .i64 q.next, .int .i64 q.now, osl 8 q.failed.length 5, osl 10 q.settled.length 5, .bool q.resync])) ∧ q.acts.any (fun b => a.alike b) = true ∧ tm 4 = .ptr 2 0 ∧ tm 5 = .int .i64 0 ∧ tm 6 = .int .i64 8) ∨ (e = .normal ∧ hp = putH q a [] ∧ tm 2 = .ptr 0 0 ∧ tm 3 = .ptr 1 0 ∧ tm 4 = .ptr 2 0 ∧ q.jobs.any (fun j => j.act.alike a) = false)) ?_ ?_
  · refine vcE.step (by simp (disch := first | assumption | omega | with_unfolding_all rfl) only [exC, exOps, exOp, wantedE, ↓reduceIte, ROp.run, evsE, evE, putE]; rfl) (vcE.block (vcE.count (by intro l tm hp h; simp at h)
      (fun i tm hp => hp = putH q a [] ∧ tm 2 = .ptr 0 0 ∧ tm 3 = .ptr 1 0 ∧ tm 4 = .ptr 2 0 ∧ tm 7 = .int .i64 i ∧ (q.jobs.take i).any (fun j => j.act.alike a) = false) q.jobs.length ⟨rfl, rfl, rfl, rfl, rfl, rfl⟩ ?_ ?_))
    · rintro i tm hp hi ⟨rfl, t2, t3, t4, t7, hall⟩
      obtain ⟨j, hj⟩ : ∃ j, q.jobs[i]? = some j := ⟨_, List.getElem?_eq_getElem hi⟩
      have hso : ∀ id, osl id q.jobs.length 10 = .sl id 0 q.jobs.length 10 q.jobs.length false := fun id => osl_pos (by omega)
      have hro : orow q.jobs.length 42 (encJ.cs q.jobs) = some (.row 42 (encJ.cs q.jobs)) := orow_pos (by omega)
      have hw : IntKind.wrap .i64 ((i : Int) + 1) = (i : Int) + 1 := wrap_i64 (by omega) (by omega)
      have hlj := hal j.act
      simp only [putH, hso, hro]
      cases hb : j.act.alike a <;> rw [hb] at hlj
      · refine vcE.ex (by simp (disch := first | assumption | omega | with_unfolding_all rfl) only [exC, exOps, exOp, wantedE, ↓reduceIte, ROp.run, evsE, evE, t7, putE, ty, Nat.reduceEqDiff, t2, same, faddrA, Option.map_some, loadA, rowA, List.getElem?_cons_zero, pickA, tz, lenFits, lenA, binA, intA, dec_true, chain, ordered, List.getElem?_cons_succ, ↓iaddrJ, ↓slJ_act, t3, ↓pickA5, List.append_nil, frzL, frz_agg, actL_frz, hlj, Cls.isFree, callCls, nidL, actL_nid, cond_true, hw]; rfl) ?_
        refine ⟨rfl, ?_, ?_, ?_, ?_, by rw [any_take_succ hj, hall, hb]; rfl⟩
        all_goals simp only [upd_app, Nat.reduceEqDiff, ↓reduceIte, t2, t3, t4]
        rfl
      · refine vcE.ex (by simp (disch := first | assumption | omega | with_unfolding_all rfl) only [exC, exOps, exOp, wantedE, ↓reduceIte, ROp.run, evsE, evE, t7, putE, ty, Nat.reduceEqDiff, t2, same, faddrA, Option.map_some, loadA, rowA, List.getElem?_cons_zero, pickA, tz, lenFits, lenA, binA, intA, dec_true, chain, ordered, List.getElem?_cons_succ, ↓iaddrJ, ↓slJ_act, t3, ↓pickA5, List.append_nil, frzL, frz_agg, actL_frz, hlj, Cls.isFree, callCls, nidL, actL_nid, cond_true, List.length_cons, List.length_nil, Nat.reduceAdd, Nat.reduceLeDiff, List.drop_zero, List.take_succ_cons, List.take_zero, t4, storeA_eq, decide_true, over, List.nil_append, List.drop_succ_cons, List.drop_nil, List.set_cons_succ, List.set_cons_zero]; rfl) ?_
        refine .inl ⟨rfl, [], rfl, by rw [any1, any_hit hj hb, Bool.true_or], ?_, ?_, ?_⟩
        all_goals simp only [upd_app, Nat.reduceEqDiff, ↓reduceIte, t4]
    · rintro tm hp ⟨rfl, t2, t3, t4, t7, hall⟩
      rw [List.take_length] at hall
      refine vcE.ex (by simp (disch := first | assumption | omega | with_unfolding_all rfl) only [exC, exOps, exOp, wantedE, ↓reduceIte, ROp.run, evsE, evE, t7, putE, ty, Nat.reduceEqDiff, t2, same, faddrA, Option.map_some, loadA, rowA, List.getElem?_cons_zero, pickA, binA, intA, dec_false]; rfl) ?_
      refine .inr ⟨rfl, rfl, ?_, ?_, ?_, hall⟩
      all_goals simp only [upd_app, Nat.reduceEqDiff, ↓reduceIte, t2, t3, t4]
  · rintro e tm hp (⟨rfl, t, rfl, hany, t4, t5, t6⟩ | ⟨rfl, rfl, t2, t3, t4, hj0⟩)
    · exact fin (r := []) (putV_twice hk hany) t4 t5 t6
    rw [hj0, Bool.false_or] at any1
    obtain ⟨v1, l1, v2, l2, a1, a2, o⟩ := two_app encA (putH q a []) (e := 23) (bytes := 72) q.failed q.settled (x := osl 8 q.failed.length 5) (y := osl 10 q.settled.length 5) (fun t => encA.osl_src (e := 23) rfl) (fun t => encA.osl_src (e := 23) rfl) (by omega) (by omega)
    obtain ⟨id, ex, rfl, hid⟩ := o
    have a1' : appA 23 5 72 (putH q a [some (.row 23 [])]) (.sl 11 0 0 5 0 true) (osl 8 q.failed.length 5) = some (v1, putH q a l1) := a1
    have a2' : appA 23 5 72 (putH q a l1) v1 (osl 10 q.settled.length 5) = some (.sl id 0 (q.failed ++ q.settled).length 5 (q.failed ++ q.settled).length ex, putH q a l2) := a2
    have hid' : (putH q a l2)[id]? = some (some (.row 23 (encA.cs (q.failed ++ q.settled)))) := hid
    clear a1 a2 hid
    have hol : (q.failed ++ q.settled).length ≤ 2147483648 := by rw [List.length_append]; omega
    generalize hold : q.failed ++ q.settled = old at *
    refine vcE.seq (vcE.forks (fun tm hp => hp = putH q a l2 ∧ tm 2 = .ptr 0 0 ∧ tm 3 = .ptr 1 0 ∧ tm 4 = .ptr 2 0 ∧ tm 8 = .sl id 0 old.length 5 old.length ex) ?_ ?_)
    · simp only [putH] at a1' a2'
      repeat' (first | with_reducible exact exTs_nil | with_reducible refine exT_fork ?_ | (with_reducible show exT _ _ _ (Tr.take _ _) _ _ _; refine exT_take rfl (by simp (disch := first | assumption | omega | with_unfolding_all rfl) only [exOp, wantedE, ↓reduceIte, ROp.run, evsE, evE, t2, same, faddrA, ty, Option.map_some, putE, loadA, rowA, List.getElem?_cons_zero, pickA, List.getElem?_cons_succ, Nat.reduceEqDiff, ↓a2', ↓a1', bslA, List.length_cons, List.length_nil, Nat.reduceAdd, flatA, List.flatMap_nil, List.cons_append, List.nil_append]; rfl) ?_) | (with_reducible show exTs _ _ _ (_ :: _) _ _ _; refine exTs_cons rfl (by simp (disch := first | assumption | omega | with_unfolding_all rfl) only [exOp, wantedE, ↓reduceIte, ROp.run, bslA, evsE, ty, List.length_cons, List.length_nil, Nat.reduceAdd, flatA, List.flatMap_nil, List.cons_append, List.nil_append, putE, evE, Nat.reduceEqDiff, ↓a1', same, loadA, rowA, List.getElem?_cons_zero, pickA, List.getElem?_cons_succ, Option.map_some]; rfl) ?_ ?_))
      all_goals (with_reducible refine exT_done ?_)
      all_goals refine ⟨rfl, ?_, ?_, ?_, ?_⟩
      all_goals simp only [upd_app, Nat.reduceEqDiff, ↓reduceIte, t2, t3, t4]
    clear t2 t3 t4
    rintro tm hp ⟨rfl, t2, t3, t4, t8⟩
    refine vcE.then (fun e tm hp => (e = .ret ∧ ∃ t, hp = (putH q a t).set 2 (some (.row 29 [osl 6 q.jobs.length 10, .int .i64 q.next, .int .i64 q.now, osl 8 q.failed.length 5, osl 10 q.settled.length 5, .bool q.resync])) ∧ q.acts.any (fun b => a.alike b) = true ∧ tm 4 = .ptr 2 0 ∧ tm 5 = .int .i64 0 ∧ tm 6 = .int .i64 8) ∨ (e = .normal ∧ hp = putH q a l2 ∧ tm 2 = .ptr 0 0 ∧ tm 3 = .ptr 1 0 ∧ tm 4 = .ptr 2 0 ∧ old.any (fun b => b.alike a) = false)) ?_ ?_
    · refine vcE.step (by simp (disch := first | assumption | omega | with_unfolding_all rfl) only [exC, exOps, exOp, wantedE, ↓reduceIte, ROp.run, evsE, evE, putE]; rfl) (vcE.block (vcE.count (by intro l tm hp h; simp at h)
        (fun i tm hp => hp = putH q a l2 ∧ tm 2 = .ptr 0 0 ∧ tm 3 = .ptr 1 0 ∧ tm 4 = .ptr 2 0 ∧ tm 8 = .sl id 0 old.length 5 old.length ex ∧ tm 9 = .int .i64 i ∧ (old.take i).any (fun b => b.alike a) = false) old.length ⟨rfl, ?_, ?_, ?_, ?_, rfl, rfl⟩ ?_ ?_))
      · simp only [upd_app, Nat.reduceEqDiff, ↓reduceIte, t2]
      · simp only [upd_app, Nat.reduceEqDiff, ↓reduceIte, t3]
      · simp only [upd_app, Nat.reduceEqDiff, ↓reduceIte, t4]
      · simp only [upd_app, Nat.reduceEqDiff, ↓reduceIte, t8]
      · rintro i tm hp hi ⟨rfl, t2, t3, t4, t8, t9, hall⟩
        obtain ⟨b, hb⟩ : ∃ b, old[i]? = some b := ⟨_, List.getElem?_eq_getElem hi⟩
        have hw : IntKind.wrap .i64 ((i : Int) + 1) = (i : Int) + 1 := wrap_i64 (by omega) (by omega)
        have hlb := hal b
        simp only [putH] at hid' ⊢
        cases hab : b.alike a <;> rw [hab] at hlb
        · refine vcE.ex (by simp (disch := first | assumption | omega | with_unfolding_all rfl) only [exC, exOps, exOp, wantedE, ↓reduceIte, ROp.run, evsE, evE, t9, putE, ty, Nat.reduceEqDiff, t8, lenFits, same, lenA, Option.map_some, binA, intA, dec_true, chain, ordered, List.getElem?_cons_zero, List.getElem?_cons_succ, ↓iaddrA5, ↓slA_load, t3, loadA, rowA, ↓pickA5, List.append_nil, frzL, frz_agg, actL_frz, hlb, Cls.isFree, callCls, nidL, tz, actL_nid, cond_true, hw]; rfl) ?_
          refine ⟨rfl, ?_, ?_, ?_, ?_, ?_, by rw [any_take_succ hb, hall, hab]; rfl⟩
          all_goals simp only [upd_app, Nat.reduceEqDiff, ↓reduceIte, t2, t3, t4, t8]
          rfl
        · refine vcE.ex (by simp (disch := first | assumption | omega | with_unfolding_all rfl) only [exC, exOps, exOp, wantedE, ↓reduceIte, ROp.run, evsE, evE, t9, putE, ty, Nat.reduceEqDiff, t8, lenFits, same, lenA, Option.map_some, binA, intA, dec_true, chain, ordered, List.getElem?_cons_zero, List.getElem?_cons_succ, ↓iaddrA5, ↓slA_load, t3, loadA, rowA, ↓pickA5, List.append_nil, frzL, frz_agg, actL_frz, hlb, Cls.isFree, callCls, nidL, tz, actL_nid, cond_true, t2, pickA, List.length_cons, List.length_nil, Nat.reduceAdd, Nat.reduceLeDiff, List.drop_zero, List.take_succ_cons, List.take_zero, t4, storeA_eq, decide_true, over, List.nil_append, List.drop_succ_cons, List.drop_nil, List.set_cons_succ, List.set_cons_zero]; rfl) ?_
          refine .inl ⟨rfl, l2, rfl, by rw [any1, any_hit hb hab], ?_, ?_, ?_⟩
          all_goals simp only [upd_app, Nat.reduceEqDiff, ↓reduceIte, t4]
      · rintro tm hp ⟨rfl, t2, t3, t4, t8, t9, hall⟩
        rw [List.take_length] at hall
        refine vcE.ex (by simp (disch := first | assumption | omega | with_unfolding_all rfl) only [exC, exOps, exOp, wantedE, ↓reduceIte, ROp.run, evsE, evE, t9, putE, ty, Nat.reduceEqDiff, t8, lenFits, same, lenA, Option.map_some, binA, intA, dec_false]; rfl) ?_
        refine .inr ⟨rfl, rfl, ?_, ?_, ?_, hall⟩
        all_goals simp only [upd_app, Nat.reduceEqDiff, ↓reduceIte, t2, t3, t4]
    clear t2 t3 t4
    rintro e tm hp (⟨rfl, t, rfl, hany, t4, t5, t6⟩ | ⟨rfl, rfl, t2, t3, t4, ho0⟩)
    · exact fin (r := []) (putV_twice hk hany) t4 t5 t6
    rw [ho0] at any1
    by_cases hor : 32 ≤ q.jobs.length ∨ 1152921504606846976 ≤ q.next
    · have hv := putV_full hk any1 hor
      by_cases hf1 : 32 ≤ q.jobs.length
      · refine vcE.ex (by simp (disch := first | assumption | omega | with_unfolding_all rfl) only [exC, exOps, exOp, wantedE, ↓reduceIte, ROp.run, evsE, evE, t2, same, faddrA, ty, Option.map_some, putE, loadA, rowA, List.getElem?_cons_zero, pickA, binA, intA, hg, dec_true, beq_iff_eq, Nat.reduceEqDiff, storeA_eq, tz, List.length_cons, List.length_nil, Nat.reduceAdd, Nat.reduceLeDiff, decide_true, over, List.take_succ_cons, List.take_zero, List.cons_append, List.nil_append, List.drop_succ_cons, List.drop_nil, List.append_nil, List.set_cons_zero, List.drop_zero, t4, List.getElem?_cons_succ, List.set_cons_succ]; rfl) ?_
        refine fin (r := []) hv ?_ ?_ ?_
        all_goals simp only [upd_app, Nat.reduceEqDiff, ↓reduceIte, t4]
      · have hf2 := hor.resolve_left hf1
        refine vcE.ex (by simp (disch := first | assumption | omega | with_unfolding_all rfl) only [exC, exOps, exOp, wantedE, ↓reduceIte, ROp.run, evsE, evE, t2, same, faddrA, ty, Option.map_some, putE, loadA, rowA, List.getElem?_cons_zero, pickA, binA, intA, hg, dec_false, beq_self_eq_true, Nat.reduceEqDiff, List.getElem?_cons_succ, tz, hf2, decide_true, storeA_eq, List.length_cons, List.length_nil, Nat.reduceAdd, Nat.reduceLeDiff, over, List.take_succ_cons, List.take_zero, List.cons_append, List.nil_append, List.drop_succ_cons, List.drop_nil, List.append_nil, List.set_cons_zero, List.drop_zero, t4, List.set_cons_succ]; rfl) ?_
        refine fin (r := []) hv ?_ ?_ ?_
        all_goals simp only [upd_app, Nat.reduceEqDiff, ↓reduceIte, t4]
    · have hv := putV_ok hk any1 hor
      have hf1 : ¬ 32 ≤ q.jobs.length := fun h => hor (.inl h)
      have hf2 : ¬ 1152921504606846976 ≤ q.next := fun h => hor (.inr h)
      refine vcE.step (by simp (disch := first | assumption | omega | with_unfolding_all rfl) only [exC, exOps, exOp, wantedE, ↓reduceIte, ROp.run, evsE, evE, t2, same, faddrA, ty, Option.map_some, putE, loadA, rowA, List.getElem?_cons_zero, pickA, binA, intA, hg, dec_false, beq_self_eq_true, Nat.reduceEqDiff, List.getElem?_cons_succ, tz, hf2, decide_false]; rfl) ?_
      refine put_tail hq h1 h2 hv ?_ ?_ ?_ rfl rfl rfl rfl rfl rfl
      all_goals simp only [upd_app, Nat.reduceEqDiff, ↓reduceIte, t2, t3, t4]
end
section
open Go Go.Proofs

theorem fslJ_hi {l : List Job} {i : Nat} (h : i ≤ l.length) : sliceA 10 (encJ.S l) none (some (.int .i64 (i : Int))) none = some (encJ.S (l.take i)) := by
  have hl : (l.take i).length = i := by rw [List.length_take]; omega
  have h2 : encJ.cs (l.take i) = (encJ.cs l).take (i * 10) := (encJ.cs_take l i).symm
  have hc : cutA l.length l.length none (some (i : Int)) none = some (0, i, l.length) := by
    simp only [cutA, Option.getD_none, Option.getD_some, Option.isSome_none, Option.isNone_some, Bool.false_eq_true, if_true]
    rw [if_pos ⟨fun h => h.elim, by omega, by omega, .inr (by omega), by omega, by omega⟩]
    simp
  simp only [Enc.S, sliceA, bndA, hc, Option.map_some, Option.isSome_none, Bool.false_eq_true, false_and, if_false, Nat.zero_mul, List.drop_zero, Nat.sub_zero]
  rw [← h2, hl]
theorem fslJ_lo {l : List Job} {i : Nat} (h : i ≤ l.length) : sliceA 10 (encJ.S l) (some (.int .i64 (i : Int))) none none = some (encJ.S (l.drop i)) := by
  have hl : (l.drop i).length = l.length - i := List.length_drop
  have h2 : encJ.cs (l.drop i) = (encJ.cs l).drop (i * 10) := (encJ.cs_drop l i).symm
  have hc : cutA l.length l.length (some (i : Int)) none none = some (i, l.length, l.length) := by
    simp only [cutA, Option.getD_none, Option.getD_some, Option.isSome_none, Option.isNone_none, Bool.false_eq_true, if_true]
    rw [if_pos ⟨fun h => h.elim, by omega, by omega, .inl trivial, by omega, by omega⟩]
    simp
  have hcl : (encJ.cs (l.drop i)).length = (l.length - i) * 10 := by rw [encJ.cs_len, hl]; rfl
  simp only [Enc.S, sliceA, bndA, hc, Option.map_some, Option.isSome_none, Bool.false_eq_true, false_and, if_false]
  rw [← h2, List.take_of_length_le (by omega), hl]
theorem rWithout (l : List Job) (hl : l.length ≤ most) (i : Nat) (hi : i < l.length) : PCF Try.prog 116 [encJ.S l, .int .i64 i] (encJ.S (l.eraseIdx i)) := by
  refine pcf_e hmG (TabOk.none _) comp116 (by decide) (by simp) (nidL_ok (by simp only [nidL, Enc.S_nid, nid, Bool.and_self])) ?_
  have hcl : True := trivial
  simp only [most] at hl
  have hw : IntKind.wrap .i64 ((i : Int) + 1) = ((i + 1 : Nat) : Int) := wrap_i64 (by omega) (by omega)
  have s1 := fslJ_hi (l := l) (i := i) (by omega)
  have s2 := fslJ_lo (l := l) (i := i + 1) (by omega)
  obtain ⟨v1, l1, v2, l2, a1, a2, o⟩ := two_app encJ [] (e := 42) (bytes := 104) (l.take i) (l.drop (i + 1)) (x := encJ.S (l.take i)) (y := encJ.S (l.drop (i + 1))) (fun t => encJ.S_src _ _) (fun t => encJ.S_src _ _) (by rw [List.length_take, List.length_drop]; omega) (by rw [List.length_take, List.length_drop]; omega)
  have a1' : appA 42 10 104 [some (.row 42 [])] (.sl 0 0 0 10 0 true) (encJ.S (l.take i)) = some (v1, l1) := a1
  have a2' : appA 42 10 104 l1 v1 (encJ.S (l.drop (i + 1))) = some (v2, l2) := a2
  refine vcE.ex (by simp (disch := first | assumption | omega | with_unfolding_all rfl) only [exC, exOps, exOp, wantedE, ↓reduceIte, ROp.run, evsE, evE, putE, chain, ordered, List.getElem?_cons_zero, List.getElem?_cons_succ, bslA, ty, List.length_nil, flatA, List.flatMap_nil, List.nil_append, reduceCtorEq, List.getD_cons_zero, Nat.reduceEqDiff, List.getD_cons_succ, bounds3, same, s1, Option.map_some, ↓a1', binA, intA, hw, s2, ↓a2', cond_true]; rfl) ?_
  refine ⟨_, rfl, ?_⟩
  simp only [upd_app, Nat.reduceEqDiff, ↓reduceIte]
  rw [List.eraseIdx_eq_take_drop_succ]
  exact o.fresh

def TRB : Tab := (TRA.addR 31 (.cons .i64 .nil) fun p => .rd true (.int .i64 (backoff p.1))).addO 116 (.cons (.S encJ) (.cons .i64 .nil)) fun p => if p.1.length ≤ most ∧ 0 ≤ p.2.1 ∧ p.2.1.toNat < p.1.length then some (.rd true (encJ.S (p.1.eraseIdx p.2.1.toNat))) else none
theorem TRB_ok : TabOk Try.prog TRB := by
  refine TabOk.addO (TabOk.addR TRA_ok ?_) ?_
  · exact fun p => rBackoff p.1
  · intro p r h
    split at h
    · rename_i hv
      cases h
      have := rWithout p.1 hv.1 p.2.1.toNat hv.2.2
      rw [Int.toNat_of_nonneg hv.2.1] at this
      exact this
    · cases h
theorem TRB_without {l : List Job} (h : l.length ≤ most) {i : Nat} (hi : i < l.length) : TRB 116 [encJ.S l, .int .i64 i] = some (.rd true (encJ.S (l.eraseIdx i))) := by
  have hc : (l, (i : Int), ()).1.length ≤ most ∧ (0 : Int) ≤ (l, (i : Int), ()).2.1 ∧ (l, (i : Int), ()).2.1.toNat < (l, (i : Int), ()).1.length := ⟨h, Int.natCast_nonneg i, by simpa using hi⟩
  exact (Tab.addO_self _ _ (.cons (.S encJ) (.cons .i64 .nil)) _ (l, (i : Int), ())).trans (if_pos hc)
theorem TRB_ne {g : FuncId} {xs : List AV} (h : (Nat.beq g 32 || Nat.beq g 31 || Nat.beq g 116) = false) : TRB g xs = TR0 g xs := by
  simp only [Bool.or_eq_false_iff] at h
  rw [TRB, Tab.addO_ne _ _ _ _ h.2, Tab.addR_ne _ _ _ _ h.1.2, TRA_ne h.1.1]
theorem TRB_own {q : Que} (h : Fits q) : TRB 32 [.agg q.c] = some (.mk fun n => (cloneV q n, cloneH q)) := by
  rw [TRB, Tab.addO_ne _ _ _ _ rfl, Tab.addR_ne _ _ _ _ rfl]
  exact TRA_own h
theorem TRB_backoff (n : Int) : TRB 31 [.int .i64 n] = some (.rd true (.int .i64 (backoff n))) := by
  rw [TRB, Tab.addO_ne _ _ _ _ rfl]
  exact Tab.addR_self _ _ (.cons .i64 .nil) _ (n, ())

theorem oslA_appF {hp : HP} {id : Nat} {l : List Act} {a : Act} (h : hp[id]? = some (orow l.length 23 (encA.cs l))) (hl : l.length ≤ 1073741824) : appA 23 5 72 hp (osl id l.length 5) (.fsl a.c 1) = some (.sl hp.length 0 (l.length + 1) 5 (l.length + 1) false, hp.set id none ++ [some (.row 23 (encA.cs (l ++ [a])))]) := by
  have hc : encA.S [a] = .fsl a.c 1 := by
    simp only [Enc.S, Enc.cs, List.append_nil]
    rfl
  have := encA.osl_app (bytes := 72) (m := [a]) (x := .fsl a.c 1) h (by rw [← hc]; exact encA.S_src hp [a]) (by simp) (by simp only [List.length_cons, List.length_nil]; omega) (by simp only [List.length_cons, List.length_nil]; omega)
  rw [List.length_append] at this
  exact this
section
variable {hp : HP} {id i k : Nat} {l m : List Job} {s u : List Act} {a : Act} {lo : Nat} {ex : Bool}
theorem slA1_frz (h : hp[id]? = some (some (.row 23 (encA.cs (s ++ [a]))))) : frz hp (.sl id 0 (s.length + 1) 5 lo ex) = some (encA.S (s ++ [a])) := by
  have := encA.sl_frz (lo := lo) (ex := ex) h
  rw [List.length_append] at this
  exact this
theorem drA_frz (h : hp[id]? = some (some (.row 23 (encA.cs (s ++ [a]))))) (hk : k ≤ s.length + 1) : frz hp (.sl id (k * 5) (s.length + 1 - k) 5 lo ex) = some (encA.S ((s ++ [a]).drop k)) := by
  have hl : (s ++ [a]).length = s.length + 1 := by rw [List.length_append]; rfl
  have hd : ((s ++ [a]).drop k).length = s.length + 1 - k := by rw [List.length_drop, hl]
  have hc : (encA.cs (s ++ [a])).length = (s.length + 1) * 5 := by rw [encA.cs_len, hl]; rfl
  have h2 : (encA.cs (s ++ [a])).drop (k * 5) = encA.cs ((s ++ [a]).drop k) := encA.cs_drop _ k
  have hdl : (encA.cs ((s ++ [a]).drop k)).length = (s.length + 1 - k) * 5 := by rw [encA.cs_len, hd]; rfl
  simp only [frz, h]
  rw [if_pos (by rw [hc, encA.cs_nid]; simp; omega), h2, List.take_of_length_le (by omega)]
  simp only [Enc.S, hd]
theorem slJset_frz {j : Job} (h : hp[id]? = some (some (.row 42 (encJ.cs (l.set i j))))) : frz hp (.sl id 0 l.length 10 lo ex) = some (encJ.S (l.set i j)) := by
  have := encJ.sl_frz (lo := lo) (ex := ex) h
  rw [List.length_set] at this
  exact this
end
theorem rReply (q : Que) (hq : Fits q) (t : Int) (ok : Bool) (h1 : 0 ≤ q.now) (h2 : q.now ≤ 1152921504606846976) (h3 : ∀ j ∈ q.jobs, 0 ≤ j.tries ∧ j.tries < 5) : PC Try.prog 79 [.agg q.c, .int .i64 t, .bool ok] (.tup [.agg (q.reply t ok).1.c, .int .i64 (q.reply t ok).2.1, .int .i64 (q.reply t ok).2.2]) := by
  refine pc_e hmG TRB_ok comp79 (by decide) (by simp) (nidL_ok (by rw [nidL, queN]; rfl)) ?_
  have hcl := TRB_own hq
  have hat : TRB 85 [.agg [encJ.S q.jobs, .int .i64 q.next, .int .i64 q.now, encA.S q.failed, encA.S q.settled, .bool q.resync], .int .i64 t] = _ := (TRB_ne rfl).trans (TR0_place hq.j t)
  have hjl := hq.j
  have hfl := hq.f
  have hsl := hq.s
  simp only [most] at hjl hfl hsl
  have hg : ∀ x y : Int, (x ≥ y) = (y ≤ x) := fun _ _ => rfl
  rw [idx_place] at hat
  cases hp : place q.jobs t with
  | none =>
    rw [hp] at hat
    rw [reply_none hp]
    refine vcE.ex (by simp (disch := first | assumption | omega | with_unfolding_all rfl) only [exC, exOps, exOp, wantedE, ↓reduceIte, ROp.run, evsE, evE, ty, List.getD_cons_zero, tz, List.length_nil, List.nil_append, putE, allocA, List.length_cons, List.cons_append, Nat.reduceEqDiff, same, loadA, rowA, List.getElem?_cons_zero, ↓pickQ, Option.map_some, List.append_nil, frzL, frz_agg, queL_frz, hcl, cloneV, cloneH, Cls.makes, callCls, nidL, queL_nid, Nat.reduceAdd, storeA_eq, Que.c_len, Nat.reduceLeDiff, decide_true, over, List.take_zero, dropQ, List.set_cons_zero, pickA, List.drop_zero, List.take_succ_cons, List.getD_cons_succ, oslJ_frz, oslA_frz, hat, Cls.isFree, binA, intA, dec_true, List.getElem?_cons_succ, List.drop_succ_cons, List.drop_nil, List.set_cons_succ]; rfl) ?_
    refine ⟨_, rfl, ?_⟩
    simp (disch := first | assumption | with_unfolding_all rfl) only [upd_app, Nat.reduceEqDiff, ↓reduceIte, frz_tup, frzL, frz_agg, frz, oslJ_frz, oslA_frz, List.take_succ_cons, List.take_zero, List.drop_succ_cons, List.drop_zero]
    rfl
  | some i =>
    rw [hp] at hat
    rw [reply_some hp]
    obtain ⟨hi, _, hj⟩ := place_some hp
    generalize q.jobs.getD i .zero = j at *
    have hso : ∀ id, osl id q.jobs.length 10 = .sl id 0 q.jobs.length 10 q.jobs.length false := fun id => osl_pos (by omega)
    have hro : orow q.jobs.length 42 (encJ.cs q.jobs) = some (.row 42 (encJ.cs q.jobs)) := orow_pos (by omega)
    have hjt := h3 j (List.mem_of_getElem? hj)
    have hw1 : IntKind.wrap .i64 (j.tries + 1) = j.tries + 1 := wrap_i64 (by omega) (by omega)
    have hneg : ¬ ((i : Int) < 0) := by omega
    have hov : over [.int .i64 0, .int .i64 0, .str [], .str [], .str [], .str [], .bool false, .bool false, .int .i64 0, .int .i64 0] 0 j.c = j.c := rfl
    have p6 : pickA none j.c (0 + 6) = some (.bool j.fly) := rfl
    have p7 : pickA none j.c (0 + 7) = some (.bool j.doubt) := rfl
    have p8 : pickA none j.c (0 + 8) = some (.int .i64 j.tries) := rfl
    have pa : pickA (some 5) j.c (0 + 1) = some (.agg j.act.c) := rfl
    refine vcE.step (by simp (disch := first | assumption | omega | with_unfolding_all rfl) only [exC, exOps, exOp, wantedE, ↓reduceIte, ROp.run, evsE, evE, ty, List.getD_cons_zero, tz, List.length_nil, List.nil_append, putE, allocA, List.length_cons, List.cons_append]; rfl) (vcE.step (by simp (disch := first | assumption | omega | with_unfolding_all rfl) only [exC, exOps, exOp, wantedE, ↓reduceIte, ROp.run, evsE, evE, ty, Nat.reduceEqDiff, same, loadA, rowA, List.getElem?_cons_zero, ↓pickQ, Option.map_some, putE, List.append_nil, frzL, frz_agg, queL_frz, hcl, cloneV, cloneH, Cls.makes, callCls, nidL, tz, queL_nid, List.length_cons, List.length_nil, Nat.reduceAdd, List.cons_append, List.nil_append, storeA_eq, Que.c_len, Nat.reduceLeDiff, decide_true, over, List.take_zero, dropQ, List.set_cons_zero]; rfl) (vcE.step (by simp (disch := first | assumption | omega | with_unfolding_all rfl) only [exC, exOps, exOp, wantedE, ↓reduceIte, ROp.run, evsE, evE, hso, ty, Nat.reduceEqDiff, same, hro, loadA, rowA, List.getElem?_cons_zero, pickA, List.length_cons, List.length_nil, Nat.reduceAdd, Nat.reduceLeDiff, List.drop_zero, List.take_succ_cons, List.take_zero, Option.map_some, putE, List.getD_cons_succ, List.getD_cons_zero, List.append_nil, frzL, frz_agg, ↓slJ_frz, tz, oslA_frz, hat, Cls.isFree, callCls, nidL]; rfl) (vcE.step (by simp (disch := first | assumption | omega | with_unfolding_all rfl) only [exC, exOps, exOp, wantedE, ↓reduceIte, ROp.run, evsE, evE, ty, putE, same, binA, intA, hneg, decide_false, Option.map_some]; rfl) (vcE.step (by simp (disch := first | assumption | omega | with_unfolding_all rfl) only [exC, exOps, exOp, wantedE, ↓reduceIte, ROp.run, evsE, evE, ty, Nat.reduceEqDiff, same, faddrA, Option.map_some, putE, loadA, rowA, List.getElem?_cons_zero, pickA, tz, ↓iaddrJ, ↓slJ_load, allocA, List.length_cons, List.length_nil, Nat.reduceAdd, List.cons_append, List.nil_append, storeA_eq, List.getElem?_cons_succ, Job.c_len, Nat.reduceLeDiff, decide_true, over, List.take_zero, List.drop_succ_cons, List.drop_nil, List.append_nil, List.set_cons_succ, List.set_cons_zero]; rfl) ?_))))
    have wv : j.waits = (!j.fly && !j.doubt) := rfl
    have step6 : ∀ {Q : Exit → Env → HP → Prop} {c : IC} {tm : Env} {hp : HP}, tm 10 = .ptr 10 0 → hp[10]? = some (some (.row 42 j.c)) → (∀ tm', (∀ k, (k < 24 ∨ 31 < k) → tm' k = tm k) → tm' 31 = .bool j.waits → vcE Try.prog (hintL [(9, 3), (13, 3), (16, 7)]) TRB 99 c tm' hp Q) → vcE Try.prog (hintL [(9, 3), (13, 3), (16, 7)]) TRB 99 (IC.seq (IC.reg r79_6) c) tm hp Q := by
      intro Q c tm hp t10 g10 k
      cases hf : j.fly <;> rw [hf] at p6 wv
      · refine vcE.step (by simp (disch := first | assumption | omega | with_unfolding_all rfl) only [exC, exOps, exOp, wantedE, ↓reduceIte, ROp.run, evsE, evE, t10, same, faddrA, ty, Option.map_some, putE, loadA, rowA, g10, ↓p6, unA, beq_self_eq_true, Nat.reduceEqDiff, ↓p7]; rfl) (k _ (fun i hi => ?_) ?_)
        · simp (disch := omega) only [upd_app, if_neg]
        · simp only [upd_app, Nat.reduceEqDiff, ↓reduceIte, wv, Bool.not_false, Bool.true_and]
      · refine vcE.step (by simp (disch := first | assumption | omega | with_unfolding_all rfl) only [exC, exOps, exOp, wantedE, ↓reduceIte, ROp.run, evsE, evE, t10, same, faddrA, ty, Option.map_some, putE, loadA, rowA, g10, ↓p6, unA, beq_iff_eq, Nat.reduceEqDiff]; rfl) (k _ (fun i hi => ?_) ?_)
        · simp (disch := omega) only [upd_app, if_neg]
        · simp only [upd_app, Nat.reduceEqDiff, ↓reduceIte, wv, Bool.not_true, Bool.false_and]
    refine vcE.seq (step6 rfl rfl ?_)
    intro tm ho t31
    have t2 : tm 2 = .bool ok := ho 2 (by omega)
    have t3 : tm 3 = .ptr 0 0 := ho 3 (by omega)
    have t6 : tm 6 = .ptr 1 0 := ho 6 (by omega)
    have t9 : tm 9 = .int .i64 i := ho 9 (by omega)
    have t10 : tm 10 = .ptr 10 0 := ho 10 (by omega)
    clear ho
    cases hw : j.waits <;> rw [hw] at t31
    rotate_left
    · refine vcE.ex (by simp (disch := first | assumption | omega | with_unfolding_all rfl) only [exC, evE, t31, exOps, exOp, wantedE, ↓reduceIte, ROp.run, evsE, t3, same, loadA, rowA, List.getElem?_cons_zero, pickA, ty, List.length_cons, List.length_nil, Nat.reduceAdd, Nat.reduceLeDiff, List.drop_zero, List.take_succ_cons, List.take_zero, Option.map_some, putE, Nat.reduceEqDiff, t6, storeA_eq, List.getElem?_cons_succ, tz, decide_true, over, List.nil_append, List.drop_succ_cons, List.drop_nil, List.append_nil, List.set_cons_succ, List.set_cons_zero]; rfl) ?_
      refine ⟨_, by simp only [resE, resEL, resE1, upd_app, Nat.reduceEqDiff, ↓reduceIte, t6]; rfl, ?_⟩
      simp (disch := first | assumption | omega | with_unfolding_all rfl) only [upd_app, Nat.reduceEqDiff, ↓reduceIte, t3, t6, frz_tup, frzL, frz_agg, ↓slJ_frz, ↓slJset_frz, ↓drA_frz, ↓slA1_frz, ↓oslJ_frz, ↓oslA_frz, ↓Enc.S_frz, frz, List.take_succ_cons, List.take_zero, List.drop_succ_cons, List.drop_zero, if_true]
      rfl
    simp only [Bool.false_eq_true, if_false]
    refine vcE.ex (by simp (disch := first | assumption | omega | with_unfolding_all rfl) only [exC, evE, t31]; rfl) ?_
    have k0 := TRB_without hq.j hi
    cases ok
    · refine vcE.step (by simp (disch := first | assumption | omega | with_unfolding_all rfl) only [exC, exOps, exOp, wantedE, ↓reduceIte, ROp.run, evsE, evE, t2, putE, ty]; rfl) ?_
      by_cases h5 : 5 ≤ j.tries + 1 ∧ q.failed.length < 64
      · obtain ⟨h5a, h5b⟩ := h5
        have happ := oslA_appF (hp := [some (.row 29 [.sl 5 0 q.jobs.length 10 q.jobs.length false, .int .i64 q.next, .int .i64 q.now, osl 7 q.failed.length 5, osl 9 q.settled.length 5, .bool q.resync]), some (.row 29 [.nils, .int .i64 0, .int .i64 0, .nils, .nils, .bool false]), none, none, none, some (.row 42 (encJ.cs q.jobs)), none, orow q.failed.length 23 (encA.cs q.failed), none, orow q.settled.length 23 (encA.cs q.settled), some (.row 42 j.c)]) (id := 7) (l := q.failed) (a := j.act) rfl hfl
        refine vcE.ex (by simp (disch := first | assumption | omega | with_unfolding_all rfl) only [exC, exOps, exOp, wantedE, ↓reduceIte, ROp.run, evsE, evE, ty, Nat.reduceEqDiff, t10, same, faddrA, Option.map_some, putE, loadA, rowA, List.getElem?_cons_succ, List.getElem?_cons_zero, ↓p8, binA, intA, hw1, hg, h5a, decide_true, beq_self_eq_true, t3, pickA, dec_true, chain, ordered, tz, t9, ↓pa, List.append_nil, frzL, ↓slJ_frz, k0, Cls.isFree, callCls, nidL, bslA, Act.c_len, litV, flatA, List.flatMap_cons, List.flatMap_nil, List.length_cons, List.length_nil, ↓happ, Nat.reduceAdd, List.set_cons_succ, List.set_cons_zero, List.cons_append, List.nil_append, storeA_eq, Nat.reduceLeDiff, over, List.take_zero, List.drop_succ_cons, List.drop_zero, List.take_succ_cons, cond_true, t6, List.drop_nil]; rfl) ?_
        refine ⟨_, by simp only [resE, resEL, resE1, upd_app, Nat.reduceEqDiff, ↓reduceIte, t6]; rfl, ?_⟩
        simp (disch := first | assumption | omega | with_unfolding_all rfl) only [upd_app, Nat.reduceEqDiff, ↓reduceIte, t3, t6, frz_tup, frzL, frz_agg, ↓slJ_frz, ↓slJset_frz, ↓drA_frz, ↓slA1_frz, ↓oslJ_frz, ↓oslA_frz, ↓Enc.S_frz, frz, List.take_succ_cons, List.take_zero, List.drop_succ_cons, List.drop_zero, h5a, h5b, and_self, if_true, Bool.false_eq_true, if_false]
        rfl
      · have hb := backoff_le (min (j.tries + 1) 4)
        have hw2 : IntKind.wrap .i64 (q.now + backoff (min (j.tries + 1) 4)) = q.now + backoff (min (j.tries + 1) 4) := wrap_i64 (by omega) (by omega)
        have hmin : minmaxA false [.int .i64 (j.tries + 1), .int .i64 4] = some (.int .i64 (min (j.tries + 1) 4)) := by
          simp only [minmaxA, minmaxA.go, Bool.false_eq_true, if_false]
          congr 2
          split <;> omega
        have hbo := TRB_backoff (min (j.tries + 1) 4)
        by_cases h6 : 5 ≤ j.tries + 1
        · have h7 : ¬ q.failed.length < 64 := fun h => h5 ⟨h6, h⟩
          refine vcE.ex (by simp (disch := first | assumption | omega | with_unfolding_all rfl) only [exC, exOps, exOp, wantedE, ↓reduceIte, ROp.run, evsE, evE, ty, Nat.reduceEqDiff, t10, same, Job.c, faddrA, Option.map_some, putE, loadA, rowA, List.getElem?_cons_succ, List.getElem?_cons_zero, pickA, tz, binA, intA, hw1, hg, h6, decide_true, beq_self_eq_true, t3, dec_false, hmin, storeA_eq, List.length_cons, List.length_nil, Nat.reduceAdd, Nat.reduceLeDiff, over, List.take_succ_cons, List.take_zero, List.cons_append, List.nil_append, List.drop_succ_cons, List.drop_zero, List.set_cons_succ, List.set_cons_zero, chain, ordered, List.append_nil, frzL, hbo, Cls.isFree, callCls, nidL, hw2, List.drop_nil, cond_true, t9, ↓iaddrJ, ↓slJ_setx, t6]; rfl) ?_
          refine ⟨_, by simp only [resE, resEL, resE1, upd_app, Nat.reduceEqDiff, ↓reduceIte, t6]; rfl, ?_⟩
          simp (disch := first | assumption | omega | with_unfolding_all rfl) only [upd_app, Nat.reduceEqDiff, ↓reduceIte, t3, t6, frz_tup, frzL, frz_agg, ↓slJ_frz, ↓slJset_frz, ↓drA_frz, ↓slA1_frz, ↓oslJ_frz, ↓oslA_frz, ↓Enc.S_frz, frz, List.take_succ_cons, List.take_zero, List.drop_succ_cons, List.drop_zero, h5, if_false, Bool.false_eq_true]
          rfl
        · refine vcE.ex (by simp (disch := first | assumption | omega | with_unfolding_all rfl) only [exC, exOps, exOp, wantedE, ↓reduceIte, ROp.run, evsE, evE, ty, Nat.reduceEqDiff, t10, same, Job.c, faddrA, Option.map_some, putE, loadA, rowA, List.getElem?_cons_succ, List.getElem?_cons_zero, pickA, tz, binA, intA, hw1, hg, h6, decide_false, beq_iff_eq, hmin, storeA_eq, List.length_cons, List.length_nil, Nat.reduceAdd, Nat.reduceLeDiff, decide_true, over, List.take_succ_cons, List.take_zero, List.cons_append, List.nil_append, List.drop_succ_cons, List.drop_zero, List.set_cons_succ, List.set_cons_zero, chain, ordered, t3, List.append_nil, frzL, hbo, Cls.isFree, callCls, nidL, hw2, List.drop_nil, cond_true, t9, ↓iaddrJ, ↓slJ_setx, t6]; rfl) ?_
          refine ⟨_, by simp only [resE, resEL, resE1, upd_app, Nat.reduceEqDiff, ↓reduceIte, t6]; rfl, ?_⟩
          simp (disch := first | assumption | omega | with_unfolding_all rfl) only [upd_app, Nat.reduceEqDiff, ↓reduceIte, t3, t6, frz_tup, frzL, frz_agg, ↓slJ_frz, ↓slJset_frz, ↓drA_frz, ↓slA1_frz, ↓oslJ_frz, ↓oslA_frz, ↓Enc.S_frz, frz, List.take_succ_cons, List.take_zero, List.drop_succ_cons, List.drop_zero, h5, if_false, Bool.false_eq_true]
          rfl
    · have happ := oslA_appF (hp := [some (.row 29 [.sl 5 0 q.jobs.length 10 q.jobs.length false, .int .i64 q.next, .int .i64 q.now, osl 7 q.failed.length 5, osl 9 q.settled.length 5, .bool q.resync]), some (.row 29 [.nils, .int .i64 0, .int .i64 0, .nils, .nils, .bool false]), none, none, none, some (.row 42 (encJ.cs q.jobs)), none, orow q.failed.length 23 (encA.cs q.failed), none, orow q.settled.length 23 (encA.cs q.settled), some (.row 42 j.c)]) (id := 9) (l := q.settled) (a := j.act) rfl hsl
      have hmax : minmaxA true [.int .i64 0, .int .i64 (((q.settled.length + 1 : Nat) : Int) - 64)] = some (.int .i64 ((q.settled.length + 1 - 64 : Nat) : Int)) := by
        simp only [minmaxA, minmaxA.go, if_true]
        congr 2
        split <;> omega
      have hsc : sliceA 5 (.sl 11 0 (q.settled.length + 1) 5 (q.settled.length + 1) false) (some (.int .i64 ((q.settled.length + 1 - 64 : Nat) : Int))) none none = _ := slice_lo (by omega) (Nat.le_refl _)
      refine vcE.ex (by simp (disch := first | assumption | omega | with_unfolding_all rfl) only [exC, exOps, exOp, wantedE, ↓reduceIte, ROp.run, evsE, evE, t2, putE, ty, chain, ordered, List.getElem?_cons_zero, List.getElem?_cons_succ, Nat.reduceEqDiff, t3, same, faddrA, Option.map_some, loadA, rowA, pickA, tz, t9, t10, ↓pa, List.append_nil, frzL, ↓slJ_frz, k0, Cls.isFree, callCls, nidL, bslA, Act.c_len, beq_self_eq_true, litV, flatA, List.flatMap_cons, List.flatMap_nil, List.length_cons, List.length_nil, ↓happ, Nat.reduceAdd, List.set_cons_succ, List.set_cons_zero, List.cons_append, List.nil_append, storeA_eq, Nat.reduceLeDiff, decide_true, over, List.take_zero, List.drop_succ_cons, List.drop_zero, List.take_succ_cons, cond_true, lenFits, lenA, binA, intA, ↓hmax, bounds3, ↓hsc, t6, List.drop_nil]; rfl) ?_
      refine ⟨_, by simp only [resE, resEL, resE1, upd_app, Nat.reduceEqDiff, ↓reduceIte, t6]; rfl, ?_⟩
      simp (disch := first | assumption | omega | with_unfolding_all rfl) only [upd_app, Nat.reduceEqDiff, ↓reduceIte, t3, t6, frz_tup, frzL, frz_agg, ↓slJ_frz, ↓slJset_frz, ↓drA_frz, ↓slA1_frz, ↓oslJ_frz, ↓oslA_frz, ↓Enc.S_frz, frz, List.take_succ_cons, List.take_zero, List.drop_succ_cons, List.drop_zero, if_true]
      rfl
end
section
open Go Go.Proofs

/-- The memory of Withdraw: the copy, and the lists that are built. -/
structure WdK (q : Que) (hp : HP) (X : AV) (a b c : Nat) (l g : List Job) (s : List Act) : Prop where
  g0 : hp[0]? = some (some (.row 29 [X, .int .i64 q.next, .int .i64 q.now, osl 7 q.failed.length 5, osl 9 q.settled.length 5, .bool q.resync]))
  g1 : hp[1]? = some (some (.row 29 [.nils, .int .i64 0, .int .i64 0, .nils, .nils, .bool false]))
  g5 : hp[5]? = some (orow q.jobs.length 42 (encJ.cs q.jobs))
  g7 : hp[7]? = some (orow q.failed.length 23 (encA.cs q.failed))
  g9 : hp[9]? = some (orow q.settled.length 23 (encA.cs q.settled))
  pl : BldAt encJ hp a 42 l
  pg : BldAt encJ hp b 42 g
  ps : BldAt encA hp c 23 s
  la : l = [] ∨ 10 ≤ a
  gb : g = [] ∨ 10 ≤ b
  sc : s = [] ∨ 10 ≤ c
  ab : l = [] ∨ g = [] ∨ a ≠ b
section
variable {q : Que} {hp : HP} {X : AV} {a b c : Nat} {l g : List Job} {s : List Act}
theorem WdK.app (h : WdK q hp X a b c l g s) (ys : HP) : WdK q (hp ++ ys) X a b c l g s :=
  ⟨app_get h.g0, app_get h.g1, app_get h.g5, app_get h.g7, app_get h.g9, h.pl.app ys, h.pg.app ys, h.ps.app ys, h.la, h.gb, h.sc, h.ab⟩
theorem WdK.len (h : WdK q hp X a b c l g s) : 10 ≤ hp.length := get_lt h.g9
theorem bld_other {α : Type} {E : Enc α} {id n k : Nat} {e : TypeId} {m : List α} {B : Blk} (h : BldAt E hp k e m) (hne : m = [] ∨ n = 0 ∨ k ≠ id) : BldAt E (bldH hp id n B) k e m := by
  rcases h with h | h
  · exact .inl h
  · rcases hne with h2 | h2
    · exact .inl h2
    · exact .inr (bldH_other h h2)
theorem WdK.ac (h : WdK q hp X a b c l g s) : l = [] ∨ s = [] ∨ a ≠ c := by
  rcases h.pl with h1 | h1
  · exact .inl h1
  rcases h.ps with h2 | h2
  · exact .inr (.inl h2)
  refine .inr (.inr fun e => ?_)
  subst e
  rw [h1] at h2
  injection h2 with h2
  injection h2 with h2
  injection h2 with h2
  cases h2
theorem WdK.bc (h : WdK q hp X a b c l g s) : g = [] ∨ s = [] ∨ b ≠ c := by
  rcases h.pg with h1 | h1
  · exact .inl h1
  rcases h.ps with h2 | h2
  · exact .inr (.inl h2)
  refine .inr (.inr fun e => ?_)
  subst e
  rw [h1] at h2
  injection h2 with h2
  injection h2 with h2
  injection h2 with h2
  cases h2
theorem lt_of {α : Type} {m : List α} {a k : Nat} (h : m = [] ∨ 10 ≤ a) (hk : k < 10) : m.length = 0 ∨ k ≠ a := by
  rcases h with rfl | h
  · exact .inl rfl
  · exact .inr (by omega)
theorem WdK.left (h : WdK q hp X a b c l g s) {j : Job} {x : AV} (hx : srcA hp 10 x = some (j.c, 1)) (hl : l.length ≤ most) : appA 42 10 104 hp (bld a l.length 10) x = some (bld hp.length (l ++ [j]).length 10, bldH hp a l.length (.row 42 (encJ.cs (l ++ [j])))) ∧ WdK q (bldH hp a l.length (.row 42 (encJ.cs (l ++ [j])))) X hp.length b c (l ++ [j]) g s := by
  simp only [most] at hl
  have hx2 : srcA hp encJ.sz x = some (encJ.cs [j], [j].length) := by
    have hc : encJ.cs [j] = j.c := List.append_nil _
    rw [hc]
    exact hx
  refine ⟨h.pl.more hx2 (by simp) (by simp only [List.length_cons, List.length_nil]; omega) (by simp only [List.length_cons, List.length_nil]; omega), ⟨bldH_other h.g0 (lt_of h.la (by omega)), bldH_other h.g1 (lt_of h.la (by omega)), bldH_other h.g5 (lt_of h.la (by omega)), bldH_other h.g7 (lt_of h.la (by omega)), bldH_other h.g9 (lt_of h.la (by omega)), BldAt.moreAt .., ?_, ?_, .inr h.len, h.gb, h.sc, ?_⟩⟩
  · refine bld_other h.pg ?_
    rcases h.ab with h2 | h2 | h2
    · exact .inr (.inl (by rw [h2]; rfl))
    · exact .inl h2
    · exact .inr (.inr (Ne.symm h2))
  · refine bld_other h.ps ?_
    rcases h.ac with h2 | h2 | h2
    · exact .inr (.inl (by rw [h2]; rfl))
    · exact .inl h2
    · exact .inr (.inr (Ne.symm h2))
  · rcases h.pg with h2 | h2
    · exact .inr (.inl h2)
    · have := get_lt h2
      exact .inr (.inr (by omega))
theorem WdK.gone (h : WdK q hp X a b c l g s) {j : Job} {x : AV} (hx : srcA hp 10 x = some (j.c, 1)) (hl : g.length ≤ most) : appA 42 10 104 hp (bld b g.length 10) x = some (bld hp.length (g ++ [j]).length 10, bldH hp b g.length (.row 42 (encJ.cs (g ++ [j])))) ∧ WdK q (bldH hp b g.length (.row 42 (encJ.cs (g ++ [j])))) X a hp.length c l (g ++ [j]) s := by
  simp only [most] at hl
  have hx2 : srcA hp encJ.sz x = some (encJ.cs [j], [j].length) := by
    have hc : encJ.cs [j] = j.c := List.append_nil _
    rw [hc]
    exact hx
  refine ⟨h.pg.more hx2 (by simp) (by simp only [List.length_cons, List.length_nil]; omega) (by simp only [List.length_cons, List.length_nil]; omega), ⟨bldH_other h.g0 (lt_of h.gb (by omega)), bldH_other h.g1 (lt_of h.gb (by omega)), bldH_other h.g5 (lt_of h.gb (by omega)), bldH_other h.g7 (lt_of h.gb (by omega)), bldH_other h.g9 (lt_of h.gb (by omega)), ?_, BldAt.moreAt .., ?_, h.la, .inr h.len, h.sc, ?_⟩⟩
  · refine bld_other h.pl ?_
    rcases h.ab with h2 | h2 | h2
    · exact .inl h2
    · exact .inr (.inl (by rw [h2]; rfl))
    · exact .inr (.inr h2)
  · refine bld_other h.ps ?_
    rcases h.bc with h2 | h2 | h2
    · exact .inr (.inl (by rw [h2]; rfl))
    · exact .inl h2
    · exact .inr (.inr (Ne.symm h2))
  · rcases h.pl with h2 | h2
    · exact .inl h2
    · have := get_lt h2
      exact .inr (.inr (by omega))
theorem WdK.still (h : WdK q hp X a b c l g s) {j : Act} {x : AV} (hx : srcA hp 5 x = some (j.c, 1)) (hl : s.length ≤ most) : appA 23 5 72 hp (bld c s.length 5) x = some (bld hp.length (s ++ [j]).length 5, bldH hp c s.length (.row 23 (encA.cs (s ++ [j])))) ∧ WdK q (bldH hp c s.length (.row 23 (encA.cs (s ++ [j])))) X a b hp.length l g (s ++ [j]) := by
  simp only [most] at hl
  have hx2 : srcA hp encA.sz x = some (encA.cs [j], [j].length) := by
    have hc : encA.cs [j] = j.c := List.append_nil _
    rw [hc]
    exact hx
  refine ⟨h.ps.more hx2 (by simp) (by simp only [List.length_cons, List.length_nil]; omega) (by simp only [List.length_cons, List.length_nil]; omega), ⟨bldH_other h.g0 (lt_of h.sc (by omega)), bldH_other h.g1 (lt_of h.sc (by omega)), bldH_other h.g5 (lt_of h.sc (by omega)), bldH_other h.g7 (lt_of h.sc (by omega)), bldH_other h.g9 (lt_of h.sc (by omega)), ?_, ?_, BldAt.moreAt .., h.la, h.gb, .inr h.len, h.ab⟩⟩
  · refine bld_other h.pl ?_
    rcases h.ac with h2 | h2 | h2
    · exact .inl h2
    · exact .inr (.inl (by rw [h2]; rfl))
    · exact .inr (.inr h2)
  · refine bld_other h.pg ?_
    rcases h.bc with h2 | h2 | h2
    · exact .inl h2
    · exact .inr (.inl (by rw [h2]; rfl))
    · exact .inr (.inr h2)
end

theorem any_is (l : List Act) (a : Act) : l.any (fun y => decide (y = a)) = decide (a ∈ l) := by
  rw [Bool.eq_iff_iff, List.any_eq_true, decide_eq_true_eq]
  constructor
  · rintro ⟨x, h1, h2⟩
    rw [← of_decide_eq_true h2]
    exact h1
  · exact fun h => ⟨a, h, decide_eq_true rfl⟩
theorem encA_pick {l : List Act} {i : Nat} {x : Act} (h : l[i]? = some x) : pickA (some 5) (encA.cs l) (i * 5) = some (.agg x.c) := encA.pick h
theorem act_eql (x y : Act) : binA .eql (.st [.int, .str, .str, .str, .str]) (.agg x.c) (.agg y.c) = some (.bool (decide (x = y))) := elA.eq x y
theorem upd_10 {e : Env} {i k : Nat} {v : AV} (hk : k < 10) (hi : Nat.ble 10 i = true) : upd e i v k = e k := by
  have := Nat.le_of_ble_eq_true hi
  rw [upd_app, if_neg (by omega)]
theorem wd_inner {hint : Nat → Nat} {keep : List Act} (hk : keep.length ≤ most) {j : Job} {b0 : Bool} {tm : Env} {hp : HP} {n : Nat} (t1 : tm 1 = encA.S keep) (t9 : tm 9 = .ptr n 0) (gn : hp[n]? = some (some (.row 42 j.c))) (t10 : tm 10 = .bool b0) :
    vcE Try.prog hint TRB 102 (IC.seq (IC.reg r81_7) (IC.block 2 (IC.loop b81_0))) tm hp fun e tm' hp' => e = .normal ∧ hp' = hp ∧ tm' 10 = .bool (b0 || decide (j.act ∈ keep)) ∧ ∀ k, k < 10 → tm' k = tm k := by
  have hcl : True := trivial
  simp only [most] at hk
  refine vcE.step (by simp (disch := first | assumption | omega) only [exC, exOps, exOp, wantedE, ↓reduceIte, ROp.run, evsE, evE, putE]; rfl) (vcE.block (vcE.count (by intro l tm hp h; simp at h)
    (fun i tm' hp' => hp' = hp ∧ tm' 10 = .bool (b0 || (keep.take i).any (fun y => decide (y = j.act))) ∧ tm' 11 = .int .i64 i ∧ ∀ k, k < 10 → tm' k = tm k) keep.length ⟨rfl, ?_, rfl, ?_⟩ ?_ ?_))
  · simp only [upd_app, Nat.reduceEqDiff, ↓reduceIte, t10, List.take_zero, List.any_nil, Bool.or_false]
  · exact fun k hk => by simp (disch := first | assumption | decide) only [upd_10]
  · rintro i tm' hp' hi ⟨rfl, k10, k11, ho⟩
    obtain ⟨x, hx⟩ : ∃ x, keep[i]? = some x := ⟨_, List.getElem?_eq_getElem hi⟩
    have k1 : tm' 1 = encA.S keep := (ho 1 (by omega)).trans t1
    have k9 : tm' 9 = .ptr n 0 := (ho 9 (by omega)).trans t9
    have hia : iaddrA 5 (encA.S keep) (.int .i64 i) = some (.fptr (encA.cs keep) (i * 5)) := encA.S_iaddr hi
    have hpk := encA_pick hx
    have hpa : pickA (some 5) j.c (0 + 1) = some (.agg j.act.c) := rfl
    have heq := act_eql x j.act
    have hw : IntKind.wrap .i64 ((i : Int) + 1) = (i : Int) + 1 := wrap_i64 (by omega) (by omega)
    rw [any_take_succ hx, ← Bool.or_assoc]
    generalize hB : (b0 || (keep.take i).any (fun y => decide (y = j.act))) = B at *
    cases B
    · refine vcE.ex (by simp (disch := first | assumption | omega) only [exC, exOps, exOp, wantedE, ↓reduceIte, ROp.run, evsE, evE, k11, putE, ty, Nat.reduceEqDiff, k1, same, Option.map_some, binA, intA, dec_true, chain, ordered, List.getElem?_cons_zero, List.getElem?_cons_succ, k10, beq_self_eq_true, hia, loadA, rowA, ↓hpk, k9, faddrA, gn, ↓hpa, ↓heq, cond_true, hw]; rfl) ?_
      refine ⟨rfl, ?_, ?_, ?_⟩
      · simp only [upd_app, Nat.reduceEqDiff, ↓reduceIte, Bool.false_or]
      · simp only [upd_app, Nat.reduceEqDiff, ↓reduceIte]; rfl
      · exact fun k hk => by simp (disch := first | assumption | decide) only [upd_10]; exact ho k hk
    · refine vcE.ex (by simp (disch := first | assumption | omega) only [exC, exOps, exOp, wantedE, ↓reduceIte, ROp.run, evsE, evE, k11, putE, ty, Nat.reduceEqDiff, k1, same, Option.map_some, binA, intA, dec_true, chain, ordered, List.getElem?_cons_zero, List.getElem?_cons_succ, k10, beq_iff_eq, cond_true, hw]; rfl) ?_
      refine ⟨rfl, ?_, ?_, ?_⟩
      · simp only [upd_app, Nat.reduceEqDiff, ↓reduceIte, Bool.true_or]
      · simp only [upd_app, Nat.reduceEqDiff, ↓reduceIte]; rfl
      · exact fun k hk => by simp (disch := first | assumption | decide) only [upd_10]; exact ho k hk
  · rintro tm' hp' ⟨rfl, k10, k11, ho⟩
    rw [List.take_length, any_is] at k10
    have k1 : tm' 1 = encA.S keep := (ho 1 (by omega)).trans t1
    refine vcE.ex (by simp (disch := first | assumption | omega) only [exC, exOps, exOp, wantedE, ↓reduceIte, ROp.run, evsE, evE, k11, putE, ty, Nat.reduceEqDiff, k1, same, Option.map_some, binA, intA, dec_false]; rfl) ?_
    refine ⟨rfl, rfl, ?_, ?_⟩
    · simp only [upd_app, Nat.reduceEqDiff, ↓reduceIte, k10]
    · exact fun k hk => by simp (disch := first | assumption | decide) only [upd_10]; exact ho k hk

theorem upd_14 {e : Env} {i k : Nat} {v : AV} (hk : k < 14) (hi : Nat.ble 14 i = true) : upd e i v k = e k := by
  have := Nat.le_of_ble_eq_true hi
  rw [upd_app, if_neg (by omega)]
theorem wd_inner2 {hint : Nat → Nat} {q : Que} {keep : List Act} (hk : keep.length ≤ most) {a : Act} {tm : Env} {hp : HP} {X : AV} {i : Nat} (t1 : tm 1 = encA.S keep) (t2 : tm 2 = .ptr 0 0) (t13 : tm 13 = .int .i64 i) (g0 : hp[0]? = some (some (.row 29 [X, .int .i64 q.next, .int .i64 q.now, osl 7 q.failed.length 5, .sl 9 0 q.settled.length 5 q.settled.length false, .bool q.resync]))) (g9 : hp[9]? = some (some (.row 23 (encA.cs q.settled)))) (ha : q.settled[i]? = some a) (t14 : tm 14 = .bool false) :
    vcE Try.prog hint TRB 102 (IC.seq (IC.reg r81_20) (IC.block 6 (IC.loop b81_2))) tm hp fun e tm' hp' => e = .normal ∧ hp' = hp ∧ tm' 14 = .bool (decide (a ∈ keep)) ∧ ∀ k, k < 14 → tm' k = tm k := by
  have hcl : True := trivial
  have hil := (List.getElem?_eq_some_iff.1 ha).1
  simp only [most] at hk
  refine vcE.step (by simp (disch := first | assumption | omega) only [exC, exOps, exOp, wantedE, ↓reduceIte, ROp.run, evsE, evE, putE]; rfl) (vcE.block (vcE.count (by intro l tm hp h; simp at h)
    (fun n tm' hp' => hp' = hp ∧ tm' 14 = .bool ((keep.take n).any (fun y => decide (y = a))) ∧ tm' 15 = .int .i64 n ∧ ∀ k, k < 14 → tm' k = tm k) keep.length ⟨rfl, ?_, rfl, ?_⟩ ?_ ?_))
  · simp only [upd_app, Nat.reduceEqDiff, ↓reduceIte, t14, List.take_zero, List.any_nil]
  · exact fun k hk => by simp (disch := first | assumption | decide) only [upd_14]
  · rintro n tm' hp' hn ⟨rfl, k14, k15, ho⟩
    obtain ⟨x, hx⟩ : ∃ x, keep[n]? = some x := ⟨_, List.getElem?_eq_getElem hn⟩
    have k1 : tm' 1 = encA.S keep := (ho 1 (by omega)).trans t1
    have k2 : tm' 2 = .ptr 0 0 := (ho 2 (by omega)).trans t2
    have k13 : tm' 13 = .int .i64 i := (ho 13 (by omega)).trans t13
    have hia : iaddrA 5 (encA.S keep) (.int .i64 n) = some (.fptr (encA.cs keep) (n * 5)) := encA.S_iaddr hn
    have hpk := encA_pick hx
    have hib : iaddrA 5 (.sl 9 0 q.settled.length 5 q.settled.length false) (.int .i64 i) = some (.ptr 9 (i * 5)) := iaddrA5 hil
    have hpa := encA_pick ha
    have heq := act_eql x a
    have hw : IntKind.wrap .i64 ((n : Int) + 1) = (n : Int) + 1 := wrap_i64 (by omega) (by omega)
    rw [any_take_succ hx]
    generalize hB : (keep.take n).any (fun y => decide (y = a)) = B at *
    cases B
    · refine vcE.ex (by simp (disch := first | assumption | omega) only [exC, exOps, exOp, wantedE, ↓reduceIte, ROp.run, evsE, evE, k15, putE, ty, Nat.reduceEqDiff, k1, same, Option.map_some, binA, intA, dec_true, chain, ordered, List.getElem?_cons_zero, List.getElem?_cons_succ, k14, beq_self_eq_true, hia, loadA, rowA, ↓hpk, k2, faddrA, g0, pickA, tz, k13, hib, g9, ↓hpa, ↓heq, cond_true, hw]; rfl) ?_
      refine ⟨rfl, ?_, ?_, ?_⟩
      · simp only [upd_app, Nat.reduceEqDiff, ↓reduceIte, Bool.false_or]
      · simp only [upd_app, Nat.reduceEqDiff, ↓reduceIte]; rfl
      · exact fun k hk => by simp (disch := first | assumption | decide) only [upd_14]; exact ho k hk
    · refine vcE.ex (by simp (disch := first | assumption | omega) only [exC, exOps, exOp, wantedE, ↓reduceIte, ROp.run, evsE, evE, k15, putE, ty, Nat.reduceEqDiff, k1, same, Option.map_some, binA, intA, dec_true, chain, ordered, List.getElem?_cons_zero, List.getElem?_cons_succ, k14, beq_iff_eq, cond_true, hw]; rfl) ?_
      refine ⟨rfl, ?_, ?_, ?_⟩
      · simp only [upd_app, Nat.reduceEqDiff, ↓reduceIte, Bool.true_or]
      · simp only [upd_app, Nat.reduceEqDiff, ↓reduceIte]; rfl
      · exact fun k hk => by simp (disch := first | assumption | decide) only [upd_14]; exact ho k hk
  · rintro tm' hp' ⟨rfl, k14, k15, ho⟩
    rw [List.take_length, any_is] at k14
    have k1 : tm' 1 = encA.S keep := (ho 1 (by omega)).trans t1
    refine vcE.ex (by simp (disch := first | assumption | omega) only [exC, exOps, exOp, wantedE, ↓reduceIte, ROp.run, evsE, evE, k15, putE, ty, Nat.reduceEqDiff, k1, same, Option.map_some, binA, intA, dec_false]; rfl) ?_
    refine ⟨rfl, rfl, ?_, ?_⟩
    · simp only [upd_app, Nat.reduceEqDiff, ↓reduceIte, k14]
    · exact fun k hk => by simp (disch := first | assumption | decide) only [upd_14]; exact ho k hk

theorem upd_9 {e : Env} {i k : Nat} {v : AV} (hk : k < 9) (hi : Nat.ble 9 i = true) : upd e i v k = e k := by
  have := Nat.le_of_ble_eq_true hi
  rw [upd_app, if_neg (by omega)]
/-- A round of the first loop. -/
theorem wd_round1 {hint : Nat → Nat} {q : Que} (hq : Fits q) {keep : List Act} (hk : keep.length ≤ most) {tm : Env} {hp : HP} {i : Nat} {j : Job} (hj : q.jobs[i]? = some j) {a b : Nat}
    (w : WdK q hp (osl 5 q.jobs.length 10) a b 0 ((q.jobs.take i).filter fun j => !goes keep j) ((q.jobs.take i).filter (goes keep)) []) (t1 : tm 1 = encA.S keep) (t2 : tm 2 = .ptr 0 0) (t4 : tm 4 = .ptr 1 0) (t6 : tm 6 = bld a ((q.jobs.take i).filter fun j => !goes keep j).length 10) (t7 : tm 7 = bld b ((q.jobs.take i).filter (goes keep)).length 10) (t8 : tm 8 = .int .i64 i) :
    vcE Try.prog hint TRB 102 b81_1 tm hp fun e tm' hp' => e = .normal ∧ ∃ a b, WdK q hp' (osl 5 q.jobs.length 10) a b 0 ((q.jobs.take (i + 1)).filter fun j => !goes keep j) ((q.jobs.take (i + 1)).filter (goes keep)) [] ∧ tm' 1 = encA.S keep ∧ tm' 2 = .ptr 0 0 ∧ tm' 4 = .ptr 1 0 ∧ tm' 6 = bld a ((q.jobs.take (i + 1)).filter fun j => !goes keep j).length 10 ∧ tm' 7 = bld b ((q.jobs.take (i + 1)).filter (goes keep)).length 10 ∧ tm' 8 = .int .i64 ((i + 1 : Nat) : Int) := by
  have hcl : True := trivial
  have hi := (List.getElem?_eq_some_iff.1 hj).1
  have hjl := hq.j
  have hso : ∀ id, osl id q.jobs.length 10 = .sl id 0 q.jobs.length 10 q.jobs.length false := fun id => osl_pos (by omega)
  have hro : orow q.jobs.length 42 (encJ.cs q.jobs) = some (.row 42 (encJ.cs q.jobs)) := orow_pos (by simp only [most] at hjl; omega)
  have hfl : ((q.jobs.take (i + 1)).filter fun j => !goes keep j) = ((q.jobs.take i).filter fun j => !goes keep j) ++ (if goes keep j then [] else [j]) := by
    rw [List.take_add_one, hj, List.filter_append]
    cases h : goes keep j <;> simp [h]
  have hfg : ((q.jobs.take (i + 1)).filter (goes keep)) = ((q.jobs.take i).filter (goes keep)) ++ (if goes keep j then [j] else []) := by
    rw [List.take_add_one, hj, List.filter_append]
    cases h : goes keep j <;> simp [h]
  have l1 : ((q.jobs.take i).filter fun j => !goes keep j).length ≤ most := Nat.le_trans (List.length_filter_le _ _) (by rw [List.length_take]; omega)
  have l2 : ((q.jobs.take i).filter (goes keep)).length ≤ most := Nat.le_trans (List.length_filter_le _ _) (by rw [List.length_take]; omega)
  rw [hfl, hfg]
  generalize ((q.jobs.take i).filter fun j => !goes keep j) = L at *
  generalize ((q.jobs.take i).filter (goes keep)) = G at *
  have hgo : goes keep j = !((j.fly || j.doubt) || decide (j.act ∈ keep)) := by
    unfold goes Job.waits
    cases j.fly <;> cases j.doubt <;> simp
  have g0 := w.g0
  have g5 := w.g5
  rw [hso] at g0
  rw [hro] at g5
  have hia : iaddrA 10 (.sl 5 0 q.jobs.length 10 q.jobs.length false) (.int .i64 i) = some (.ptr 5 (i * 10)) := iaddrJ hi
  have hpj : pickA (some 10) (encJ.cs q.jobs) (i * 10) = some (.agg j.c) := encJ.pick hj
  have hw : IntKind.wrap .i64 ((i : Int) + 1) = (i : Int) + 1 := wrap_i64 (by simp only [most] at hjl; omega) (by simp only [most] at hjl; omega)
  have hcc : cellsA (.agg j.c) = j.c := rfl
  have p6 : pickA none j.c (0 + 6) = some (.bool j.fly) := rfl
  have p7 : pickA none j.c (0 + 7) = some (.bool j.doubt) := rfl
  have pj : pickA (some 10) j.c 0 = some (.agg j.c) := rfl
  refine vcE.step (by simp (disch := first | assumption | omega) only [exC, exOps, exOp, wantedE, ↓reduceIte, ROp.run, evsE, evE, t8, putE, ty, Nat.reduceEqDiff, t2, same, faddrA, Option.map_some, loadA, rowA, g0, pickA, List.getElem?_cons_zero, tz, lenFits, lenA, binA, intA, dec_true]; rfl) ?_
  refine vcE.seq (vcE.block ?_)
  refine vcE.step (by simp (disch := first | assumption | omega) only [exC, exOps, exOp, wantedE, ↓reduceIte, ROp.run, evsE, evE, ty, Nat.reduceEqDiff, t2, same, faddrA, Option.map_some, putE, loadA, rowA, g0, pickA, List.getElem?_cons_zero, tz, t8, hia, g5, ↓hpj, allocA, storeA_eq, getA0, hcc, Job.c_len, List.length_cons, List.length_nil, Nat.reduceAdd, Nat.reduceLeDiff, dec_true, over, List.take_zero, List.nil_append, List.drop_succ_cons, List.drop_nil, List.append_nil, setA0, List.set_cons_zero]; rfl) ?_
  refine vcE.then (fun e tm' hp' => e = .normal ∧ hp' = hp ++ [some (.row 42 j.c)] ∧ tm' 10 = .bool (j.fly || j.doubt) ∧ tm' 9 = .ptr hp.length 0 ∧ ∀ k, k < 9 → tm' k = tm k) ?_ ?_
  · cases hf : j.fly <;> rw [hf] at p6
    · refine vcE.ex (by simp (disch := first | assumption | omega) only [exC, exOps, exOp, wantedE, ↓reduceIte, ROp.run, evsE, evE, ty, same, faddrA, Option.map_some, putE, loadA, rowA, getA0, List.getElem?_cons_zero, ↓p6, beq_self_eq_true, Nat.reduceEqDiff, ↓p7]; rfl) ?_
      refine ⟨rfl, rfl, ?_, ?_, ?_⟩
      · simp only [upd_app, Nat.reduceEqDiff, ↓reduceIte, Bool.false_or]
      · simp only [upd_app, Nat.reduceEqDiff, ↓reduceIte]
      · exact fun k hk => by simp (disch := first | assumption | decide) only [upd_9]
    · refine vcE.ex (by simp (disch := first | assumption | omega) only [exC, exOps, exOp, wantedE, ↓reduceIte, ROp.run, evsE, evE, ty, same, faddrA, Option.map_some, putE, loadA, rowA, getA0, List.getElem?_cons_zero, ↓p6, beq_iff_eq, Nat.reduceEqDiff]; rfl) ?_
      refine ⟨rfl, rfl, ?_, ?_, ?_⟩
      · simp only [upd_app, Nat.reduceEqDiff, ↓reduceIte, Bool.true_or]
      · simp only [upd_app, Nat.reduceEqDiff, ↓reduceIte]
      · exact fun k hk => by simp (disch := first | assumption | decide) only [upd_9]
  rintro e tm' hp' ⟨rfl, rfl, k10, k9, ho⟩
  refine vcE.then _ (wd_inner (j := j) hk ((ho 1 (by omega)).trans t1) k9 (by simp) k10) ?_
  rintro e tm2 hp2 ⟨rfl, rfl, m10, ho2⟩
  have m1 : tm2 1 = encA.S keep := (ho2 1 (by omega)).trans ((ho 1 (by omega)).trans t1)
  have m2 : tm2 2 = .ptr 0 0 := (ho2 2 (by omega)).trans ((ho 2 (by omega)).trans t2)
  have m4 : tm2 4 = .ptr 1 0 := (ho2 4 (by omega)).trans ((ho 4 (by omega)).trans t4)
  have m6 : tm2 6 = bld a L.length 10 := (ho2 6 (by omega)).trans ((ho 6 (by omega)).trans t6)
  have m7 : tm2 7 = bld b G.length 10 := (ho2 7 (by omega)).trans ((ho 7 (by omega)).trans t7)
  have m8 : tm2 8 = .int .i64 i := (ho2 8 (by omega)).trans ((ho 8 (by omega)).trans t8)
  have m9 : tm2 9 = .ptr hp.length 0 := (ho2 9 (by omega)).trans k9
  have w2 := (w.app [some (.row 42 j.c)]).app [some (.row 42 j.c)]
  have hgx : (hp ++ [some (Blk.row 42 j.c)])[hp.length]? = some (some (.row 42 j.c)) := by simp
  have hsx : srcA ((hp ++ [some (.row 42 j.c)]) ++ [some (.row 42 j.c)]) 10 (.sl (hp ++ [some (Blk.row 42 j.c)]).length 0 1 10 1 true) = some (j.c, 1) := by
    have hc : encJ.cs [j] = j.c := List.append_nil _
    have := encJ.sl_src (l := [j]) (lo := 1) (ex := true) (e := 42) (id := (hp ++ [some (Blk.row 42 j.c)]).length) (hp := (hp ++ [some (.row 42 j.c)]) ++ [some (.row 42 j.c)]) (by rw [hc]; simp)
    rw [hc] at this
    exact this
  generalize hp ++ [some (Blk.row 42 j.c)] = hp1 at *
  cases hB : (j.fly || j.doubt) || decide (j.act ∈ keep) <;> rw [hB] at m10 hgo
  · obtain ⟨ha, wn⟩ := w2.gone hsx l2
    refine vcE.ex (by simp (disch := first | assumption | omega) only [exC, exOps, exOp, wantedE, ↓reduceIte, ROp.run, evsE, evE, m10, putE, ty, Nat.reduceEqDiff, m7, m9, same, loadA, rowA, hgx, ↓pj, Option.map_some, bslA, tz, hcc, Job.c_len, beq_self_eq_true, List.length_cons, List.length_nil, flatA, List.flatMap_cons, List.flatMap_nil, List.append_nil, ↓ha]; rfl) ?_
    refine vcE.ex (by simp (disch := first | assumption | omega) only [exC, exOps, exOp, wantedE, ↓reduceIte, ROp.run, evsE, evE, ty, Nat.reduceEqDiff, m8, putE, same, binA, intA, hw, Option.map_some]; rfl) ?_
    refine ⟨rfl, a, (hp1 ++ [some (Blk.row 42 j.c)]).length, ?_, ?_, ?_, ?_, ?_, ?_, ?_⟩
    · rw [hgo]
      simp only [Bool.not_false, if_true, List.append_nil]
      exact wn
    all_goals simp only [upd_app, Nat.reduceEqDiff, ↓reduceIte, m1, m2, m4, m6]
    · rw [hgo]
      simp only [Bool.not_false, if_true, List.append_nil]
    · rw [hgo]
      rfl
    · rfl
  · obtain ⟨ha, wn⟩ := w2.left hsx l1
    refine vcE.ex (by simp (disch := first | assumption | omega) only [exC, exOps, exOp, wantedE, ↓reduceIte, ROp.run, evsE, evE, m10, putE, ty, Nat.reduceEqDiff, m6, m9, same, loadA, rowA, hgx, ↓pj, Option.map_some, bslA, tz, hcc, Job.c_len, beq_self_eq_true, List.length_cons, List.length_nil, flatA, List.flatMap_cons, List.flatMap_nil, List.append_nil, ↓ha]; rfl) ?_
    refine vcE.ex (by simp (disch := first | assumption | omega) only [exC, exOps, exOp, wantedE, ↓reduceIte, ROp.run, evsE, evE, ty, Nat.reduceEqDiff, m8, putE, same, binA, intA, hw, Option.map_some]; rfl) ?_
    refine ⟨rfl, (hp1 ++ [some (Blk.row 42 j.c)]).length, b, ?_, ?_, ?_, ?_, ?_, ?_, ?_⟩
    · rw [hgo]
      simp only [Bool.not_true, Bool.false_eq_true, if_false, List.append_nil]
      exact wn
    all_goals simp only [upd_app, Nat.reduceEqDiff, ↓reduceIte, m1, m2, m4, m7]
    · rw [hgo]
      rfl
    · rw [hgo]
      simp only [Bool.not_true, Bool.false_eq_true, if_false, List.append_nil]
    · rfl
end
section
open Go Go.Proofs

theorem WdK.setX {q : Que} {hp : HP} {X : AV} {a b c : Nat} {l g : List Job} {s : List Act} (h : WdK q hp X a b c l g s) (X' : AV) : WdK q (hp.set 0 (some (.row 29 [X', .int .i64 q.next, .int .i64 q.now, osl 7 q.failed.length 5, osl 9 q.settled.length 5, .bool q.resync]))) X' a b c l g s := by
  have ne : ∀ {k : Nat} {y : Option Blk}, k ≠ 0 → hp[k]? = some y → (hp.set 0 (some (.row 29 [X', .int .i64 q.next, .int .i64 q.now, osl 7 q.failed.length 5, osl 9 q.settled.length 5, .bool q.resync])))[k]? = some y := fun hk hy => (set_get_ne (Ne.symm hk)).trans hy
  refine ⟨set_get h.g0, ne (by omega) h.g1, ne (by omega) h.g5, ne (by omega) h.g7, ne (by omega) h.g9, ?_, ?_, ?_, h.la, h.gb, h.sc, h.ab⟩
  · rcases h.la with h1 | h1
    · exact .inl h1
    · exact h.pl.imp id (ne (by omega))
  · rcases h.gb with h1 | h1
    · exact .inl h1
    · exact h.pg.imp id (ne (by omega))
  · rcases h.sc with h1 | h1
    · exact .inl h1
    · exact h.ps.imp id (ne (by omega))
/-- A round of the second loop. -/
theorem wd_round2 {hint : Nat → Nat} {q : Que} (hq : Fits q) {keep : List Act} (hk : keep.length ≤ most) {tm : Env} {hp : HP} {i : Nat} {x : Act} (hx : q.settled[i]? = some x) {X : AV} {a b c : Nat} {L G : List Job}
    (w : WdK q hp X a b c L G ((q.settled.take i).filter fun y => decide (y ∈ keep))) (t1 : tm 1 = encA.S keep) (t2 : tm 2 = .ptr 0 0) (t4 : tm 4 = .ptr 1 0) (t7 : tm 7 = bld b G.length 10) (t12 : tm 12 = bld c ((q.settled.take i).filter fun y => decide (y ∈ keep)).length 5) (t13 : tm 13 = .int .i64 i) :
    vcE Try.prog hint TRB 102 b81_3 tm hp fun e tm' hp' => e = .normal ∧ ∃ c, WdK q hp' X a b c L G ((q.settled.take (i + 1)).filter fun y => decide (y ∈ keep)) ∧ tm' 1 = encA.S keep ∧ tm' 2 = .ptr 0 0 ∧ tm' 4 = .ptr 1 0 ∧ tm' 7 = bld b G.length 10 ∧ tm' 12 = bld c ((q.settled.take (i + 1)).filter fun y => decide (y ∈ keep)).length 5 ∧ tm' 13 = .int .i64 ((i + 1 : Nat) : Int) := by
  have hcl : True := trivial
  have hi := (List.getElem?_eq_some_iff.1 hx).1
  have hsl := hq.s
  simp only [most] at hsl
  have hso : ∀ id, osl id q.settled.length 5 = .sl id 0 q.settled.length 5 q.settled.length false := fun id => osl_pos (by omega)
  have hro : orow q.settled.length 23 (encA.cs q.settled) = some (.row 23 (encA.cs q.settled)) := orow_pos (by omega)
  have hfl : ((q.settled.take (i + 1)).filter fun y => decide (y ∈ keep)) = ((q.settled.take i).filter fun y => decide (y ∈ keep)) ++ (if decide (x ∈ keep) then [x] else []) := by
    rw [List.take_add_one, hx, List.filter_append]
    cases h : decide (x ∈ keep) <;> simp [h]
  have l1 : ((q.settled.take i).filter fun y => decide (y ∈ keep)).length ≤ most := Nat.le_trans (List.length_filter_le _ _) (by rw [List.length_take]; simp only [most]; omega)
  rw [hfl]
  generalize ((q.settled.take i).filter fun y => decide (y ∈ keep)) = S at *
  have g0 := w.g0
  have g9 := w.g9
  rw [hso] at g0
  rw [hro] at g9
  have hia : iaddrA 5 (.sl 9 0 q.settled.length 5 q.settled.length false) (.int .i64 i) = some (.ptr 9 (i * 5)) := iaddrA5 hi
  have hpx := encA_pick hx
  have hw : IntKind.wrap .i64 ((i : Int) + 1) = (i : Int) + 1 := wrap_i64 (by omega) (by omega)
  have hcc : cellsA (.agg x.c) = x.c := rfl
  refine vcE.step (by simp (disch := first | assumption | omega) only [exC, exOps, exOp, wantedE, ↓reduceIte, ROp.run, evsE, evE, t13, putE, ty, Nat.reduceEqDiff, t2, same, faddrA, Option.map_some, loadA, rowA, g0, pickA, List.getElem?_cons_succ, List.getElem?_cons_zero, tz, lenFits, lenA, binA, intA, dec_true]; rfl) ?_
  refine vcE.seq (vcE.block ?_)
  refine vcE.step (by simp (disch := first | assumption | omega) only [exC, exOps, exOp, wantedE, ↓reduceIte, ROp.run, evsE, evE, putE]; rfl) ?_
  refine vcE.then _ (wd_inner2 (q := q) (a := x) (X := X) hk (by simp only [upd_app, Nat.reduceEqDiff, ↓reduceIte, t1]) (by simp only [upd_app, Nat.reduceEqDiff, ↓reduceIte, t2]) (by simp only [upd_app, Nat.reduceEqDiff, ↓reduceIte, t13]) g0 g9 hx (by simp only [upd_app, Nat.reduceEqDiff, ↓reduceIte])) ?_
  rintro e tm2 hp2 ⟨rfl, rfl, m14, ho⟩
  have m1 : tm2 1 = encA.S keep := (ho 1 (by omega)).trans (by simp only [upd_app, Nat.reduceEqDiff, ↓reduceIte, t1])
  have m2 : tm2 2 = .ptr 0 0 := (ho 2 (by omega)).trans (by simp only [upd_app, Nat.reduceEqDiff, ↓reduceIte, t2])
  have m4 : tm2 4 = .ptr 1 0 := (ho 4 (by omega)).trans (by simp only [upd_app, Nat.reduceEqDiff, ↓reduceIte, t4])
  have m7 : tm2 7 = bld b G.length 10 := (ho 7 (by omega)).trans (by simp only [upd_app, Nat.reduceEqDiff, ↓reduceIte, t7])
  have m12 : tm2 12 = bld c S.length 5 := (ho 12 (by omega)).trans (by simp only [upd_app, Nat.reduceEqDiff, ↓reduceIte, t12])
  have m13 : tm2 13 = .int .i64 i := (ho 13 (by omega)).trans (by simp only [upd_app, Nat.reduceEqDiff, ↓reduceIte, t13])
  have w2 := w.app [some (.row 23 x.c)]
  have hsx : srcA (hp2 ++ [some (.row 23 x.c)]) 5 (.sl hp2.length 0 1 5 1 true) = some (x.c, 1) := by
    have hc : encA.cs [x] = x.c := List.append_nil _
    have := encA.sl_src (l := [x]) (lo := 1) (ex := true) (e := 23) (id := hp2.length) (hp := hp2 ++ [some (.row 23 x.c)]) (by rw [hc]; simp)
    rw [hc] at this
    exact this
  cases hB : decide (x ∈ keep) <;> rw [hB] at m14
  · refine vcE.ex (by simp (disch := first | assumption | omega) only [exC, exOps, exOp, wantedE, ↓reduceIte, ROp.run, evsE, evE, m14, putE, ty]; rfl) ?_
    refine vcE.ex (by simp (disch := first | assumption | omega) only [exC, exOps, exOp, wantedE, ↓reduceIte, ROp.run, evsE, evE, ty, Nat.reduceEqDiff, m13, putE, same, binA, intA, hw, Option.map_some]; rfl) ?_
    refine ⟨rfl, c, ?_, ?_, ?_, ?_, ?_, ?_, ?_⟩
    · simp only [Bool.false_eq_true, if_false, List.append_nil]
      exact w
    all_goals simp only [upd_app, Nat.reduceEqDiff, ↓reduceIte, m1, m2, m4, m7, m12]
    · simp only [Bool.false_eq_true, if_false, List.append_nil]
    · rfl
  · obtain ⟨ha, wn⟩ := w2.still hsx l1
    refine vcE.ex (by simp (disch := first | assumption | omega) only [exC, exOps, exOp, wantedE, ↓reduceIte, ROp.run, evsE, evE, m14, putE, ty, Nat.reduceEqDiff, m12, m2, same, faddrA, Option.map_some, loadA, rowA, g0, pickA, List.getElem?_cons_succ, List.getElem?_cons_zero, tz, m13, hia, g9, ↓hpx, bslA, hcc, Act.c_len, beq_self_eq_true, List.length_cons, List.length_nil, flatA, List.flatMap_cons, List.flatMap_nil, List.append_nil, ↓ha]; rfl) ?_
    refine vcE.ex (by simp (disch := first | assumption | omega) only [exC, exOps, exOp, wantedE, ↓reduceIte, ROp.run, evsE, evE, ty, Nat.reduceEqDiff, m13, putE, same, binA, intA, hw, Option.map_some]; rfl) ?_
    refine ⟨rfl, (hp2 ++ [some (Blk.row 23 x.c)]).length, ?_, ?_, ?_, ?_, ?_, ?_, ?_⟩
    · simp only [if_true]
      exact wn
    all_goals simp only [upd_app, Nat.reduceEqDiff, ↓reduceIte, m1, m2, m4, m7]
    · rfl

theorem rWithdraw (q : Que) (hq : Fits q) (keep : List Act) (hk : keep.length ≤ most) : PC Try.prog 81 [.agg q.c, encA.S keep] (.tup [.agg (q.withdraw keep).1.c, encJ.S (q.withdraw keep).2]) := by
  refine pc_e hmG TRB_ok comp81 (by decide) (by simp) (nidL_ok (by rw [nidL, queN]; simp only [nidL, Enc.S_nid, Bool.and_self])) ?_
  have hcl := TRB_own hq
  refine vcE.step (by simp (disch := first | assumption | omega | with_unfolding_all rfl) only [exC, exOps, exOp, wantedE, ↓reduceIte, ROp.run, evsE, evE, ty, List.getD_cons_zero, tz, List.length_nil, List.nil_append, putE, allocA, List.length_cons, List.cons_append]; rfl) (vcE.step (by simp (disch := first | assumption | omega | with_unfolding_all rfl) only [exC, exOps, exOp, wantedE, ↓reduceIte, ROp.run, evsE, evE, ty, Nat.reduceEqDiff, same, loadA, rowA, List.getElem?_cons_zero, ↓pickQ, Option.map_some, putE, List.append_nil, frzL, frz_agg, queL_frz, hcl, cloneV, cloneH, Cls.makes, callCls, nidL, tz, queL_nid, List.length_cons, List.length_nil, Nat.reduceAdd, List.cons_append, List.nil_append, storeA_eq, Que.c_len, Nat.reduceLeDiff, decide_true, over, List.take_zero, dropQ, List.set_cons_zero]; rfl) (vcE.step (by simp (disch := first | assumption | omega | with_unfolding_all rfl) only [exC, exOps, exOp, wantedE, ↓reduceIte, ROp.run, evsE, evE, putE]; rfl) ?_))
  refine vcE.then (fun e tm hp => e = .normal ∧ ∃ a b, WdK q hp (osl 5 q.jobs.length 10) a b 0 (q.jobs.filter fun j => !goes keep j) (q.jobs.filter (goes keep)) [] ∧ tm 1 = encA.S keep ∧ tm 2 = .ptr 0 0 ∧ tm 4 = .ptr 1 0 ∧ tm 6 = bld a (q.jobs.filter fun j => !goes keep j).length 10 ∧ tm 7 = bld b (q.jobs.filter (goes keep)).length 10) ?_ ?_
  · refine vcE.step (by simp (disch := first | assumption | omega) only [exC, exOps, exOp, wantedE, ↓reduceIte, ROp.run, evsE, evE, putE]; rfl) (vcE.block (vcE.count (by intro l tm hp h; simp at h)
      (fun i tm hp => ∃ a b, WdK q hp (osl 5 q.jobs.length 10) a b 0 ((q.jobs.take i).filter fun j => !goes keep j) ((q.jobs.take i).filter (goes keep)) [] ∧ tm 1 = encA.S keep ∧ tm 2 = .ptr 0 0 ∧ tm 4 = .ptr 1 0 ∧ tm 6 = bld a ((q.jobs.take i).filter fun j => !goes keep j).length 10 ∧ tm 7 = bld b ((q.jobs.take i).filter (goes keep)).length 10 ∧ tm 8 = .int .i64 i) q.jobs.length ⟨0, 0, ⟨rfl, rfl, rfl, rfl, rfl, .inl rfl, .inl rfl, .inl rfl, .inl rfl, .inl rfl, .inl rfl, .inl rfl⟩, rfl, rfl, rfl, rfl, rfl, rfl⟩ ?_ ?_))
    · rintro i tm hp hi ⟨a, b, w, t1, t2, t4, t6, t7, t8⟩
      obtain ⟨j, hj⟩ : ∃ j, q.jobs[i]? = some j := ⟨_, List.getElem?_eq_getElem hi⟩
      refine (wd_round1 hq hk hj w t1 t2 t4 t6 t7 t8).mono ?_
      rintro e tm' hp' ⟨rfl, h⟩
      exact h
    · rintro tm hp ⟨a, b, w, t1, t2, t4, t6, t7, t8⟩
      rw [List.take_length] at w t6 t7
      have g0 := w.g0
      refine vcE.ex (by simp (disch := first | assumption | omega) only [exC, exOps, exOp, wantedE, ↓reduceIte, ROp.run, evsE, evE, t8, putE, ty, Nat.reduceEqDiff, t2, same, faddrA, Option.map_some, loadA, rowA, g0, pickA, List.getElem?_cons_zero, binA, intA, dec_false]; rfl) ?_
      refine ⟨rfl, a, b, w, ?_, ?_, ?_, ?_, ?_⟩
      all_goals simp only [upd_app, Nat.reduceEqDiff, ↓reduceIte, t1, t2, t4, t6, t7]
  rintro e tm hp ⟨rfl, a, b, w, t1, t2, t4, t6, t7⟩
  have g0 := w.g0
  have one6 := bld_one a (q.jobs.filter fun j => !goes keep j).length 10
  have cel6 := bld_cells a (q.jobs.filter fun j => !goes keep j).length 10
  have nt6 : notTup (bld a (q.jobs.filter fun j => !goes keep j).length 10) = true := by unfold bld; split <;> rfl
  refine vcE.step (by simp (disch := first | assumption | omega) only [exC, exOps, exOp, wantedE, ↓reduceIte, ROp.run, evsE, evE, t6, putE, ty, Nat.reduceEqDiff, t2, same, faddrA, Option.map_some, storeA_eq, g0, nt6, cel6, List.length_cons, List.length_nil, Nat.reduceAdd, Nat.reduceLeDiff, decide_true, over, List.take_zero, List.nil_append, List.drop_succ_cons, List.drop_zero, List.cons_append]; rfl) (vcE.step (by simp (disch := first | assumption | omega) only [exC, exOps, exOp, wantedE, ↓reduceIte, ROp.run, evsE, evE, putE]; rfl) ?_)
  have w := w.setX (bld a (q.jobs.filter fun j => !goes keep j).length 10)
  have hwd : q.withdraw keep = ({ q with jobs := q.jobs.filter (fun j => !goes keep j), settled := q.settled.filter (fun a => decide (a ∈ keep)) }, q.jobs.filter (goes keep)) := rfl
  rw [hwd]
  generalize hL : (q.jobs.filter fun j => !goes keep j) = L at *
  generalize hG : q.jobs.filter (goes keep) = G at *
  refine vcE.then (fun e tm hp => e = .normal ∧ ∃ c, WdK q hp (bld a L.length 10) a b c L G (q.settled.filter fun y => decide (y ∈ keep)) ∧ tm 2 = .ptr 0 0 ∧ tm 4 = .ptr 1 0 ∧ tm 7 = bld b G.length 10 ∧ tm 12 = bld c (q.settled.filter fun y => decide (y ∈ keep)).length 5) ?_ ?_
  · refine vcE.step (by simp (disch := first | assumption | omega) only [exC, exOps, exOp, wantedE, ↓reduceIte, ROp.run, evsE, evE, putE]; rfl) (vcE.block (vcE.count (by intro l tm hp h; simp at h)
      (fun i tm hp => ∃ c, WdK q hp (bld a L.length 10) a b c L G ((q.settled.take i).filter fun y => decide (y ∈ keep)) ∧ tm 1 = encA.S keep ∧ tm 2 = .ptr 0 0 ∧ tm 4 = .ptr 1 0 ∧ tm 7 = bld b G.length 10 ∧ tm 12 = bld c ((q.settled.take i).filter fun y => decide (y ∈ keep)).length 5 ∧ tm 13 = .int .i64 i) q.settled.length ⟨0, w, ?_, ?_, ?_, ?_, ?_, rfl⟩ ?_ ?_))
    · simp only [upd_app, Nat.reduceEqDiff, ↓reduceIte, t1]
    · simp only [upd_app, Nat.reduceEqDiff, ↓reduceIte, t2]
    · simp only [upd_app, Nat.reduceEqDiff, ↓reduceIte, t4]
    · simp only [upd_app, Nat.reduceEqDiff, ↓reduceIte, t7]
    · simp only [upd_app, Nat.reduceEqDiff, ↓reduceIte]; rfl
    · rintro i tm hp hi ⟨c, w, t1, t2, t4, t7, t12, t13⟩
      obtain ⟨x, hx⟩ : ∃ x, q.settled[i]? = some x := ⟨_, List.getElem?_eq_getElem hi⟩
      refine (wd_round2 hq hk hx w t1 t2 t4 t7 t12 t13).mono ?_
      rintro e tm' hp' ⟨rfl, h⟩
      exact h
    · rintro tm hp ⟨c, w, t1, t2, t4, t7, t12, t13⟩
      rw [List.take_length] at w t12
      have g0 := w.g0
      refine vcE.ex (by simp (disch := first | assumption | omega) only [exC, exOps, exOp, wantedE, ↓reduceIte, ROp.run, evsE, evE, t13, putE, ty, Nat.reduceEqDiff, t2, same, faddrA, Option.map_some, loadA, rowA, g0, pickA, List.getElem?_cons_succ, List.getElem?_cons_zero, binA, intA, dec_false]; rfl) ?_
      refine ⟨rfl, c, w, ?_, ?_, ?_, ?_⟩
      all_goals simp only [upd_app, Nat.reduceEqDiff, ↓reduceIte, t2, t4, t7, t12]
  clear t1 t2 t4 t6 t7 w g0
  rintro e tm hp ⟨rfl, c, w, t2, t4, t7, t12⟩
  generalize hS : (q.settled.filter fun y => decide (y ∈ keep)) = S at *
  have g0 := w.g0
  have g1 := w.g1
  have one12 := bld_one c S.length 5
  have cel12 := bld_cells c S.length 5
  have nt12 : notTup (bld c S.length 5) = true := by unfold bld; split <;> rfl
  have s0 : ∀ x, (hp.set 0 x)[0]? = some x := fun x => set_get g0
  have s1 : ∀ x, (hp.set 0 x)[1]? = hp[1]? := fun x => set_get_ne (by omega)
  refine vcE.ex (by simp (disch := first | assumption | omega) only [exC, exOps, exOp, wantedE, ↓reduceIte, ROp.run, evsE, evE, t12, putE, ty, Nat.reduceEqDiff, t2, same, faddrA, Option.map_some, storeA_eq, g0, nt12, cel12, List.length_cons, List.length_nil, Nat.reduceAdd, Nat.reduceLeDiff, decide_true, over, List.take_succ_cons, List.take_zero, List.cons_append, List.nil_append, List.drop_succ_cons, List.drop_zero, loadA, rowA, s0, pickA, t7, t4, s1, g1, tz, List.drop_nil, List.append_nil]; rfl) ?_
  have hl1 : 1 < hp.length := get_lt g1
  have key : ∀ {Y : Option Blk}, ((hp.set 0 Y).set 1 Y)[1]? = some Y ∧ ∀ k, k ≠ 0 → k ≠ 1 → ((hp.set 0 Y).set 1 Y)[k]? = hp[k]? := by
    intro Y
    refine ⟨by rw [List.getElem?_set_self (by rw [List.length_set]; exact hl1)], fun k k0 k1 => ?_⟩
    rw [List.getElem?_set_ne (by omega), List.getElem?_set_ne (by omega)]
  have fin : ∀ {H : HP}, H[1]? = some (some (.row 29 [bld a L.length 10, .int .i64 q.next, .int .i64 q.now, osl 7 q.failed.length 5, bld c S.length 5, .bool q.resync])) → (∀ k, k ≠ 0 → k ≠ 1 → H[k]? = hp[k]?) → ∀ {tm' : Env}, tm' 4 = .ptr 1 0 → tm' 5 = bld b G.length 10 → RetE [.cell 4 (some 6), .t 5] (fun r' hp' => frz hp' r' = some (.tup [.agg ({ q with jobs := L, settled := S } : Que).c, encJ.S G])) .ret tm' H := by
    intro H e1 oth tm' u4 u5
    have b1 : BldAt encJ H a 42 L := by
      rcases w.la with h | h
      · exact .inl h
      · exact w.pl.imp id fun h2 => (oth a (by omega) (by omega)).trans h2
    have b2 : BldAt encJ H b 42 G := by
      rcases w.gb with h | h
      · exact .inl h
      · exact w.pg.imp id fun h2 => (oth b (by omega) (by omega)).trans h2
    have b3 : BldAt encA H c 23 S := by
      rcases w.sc with h | h
      · exact .inl h
      · exact w.ps.imp id fun h2 => (oth c (by omega) (by omega)).trans h2
    have f1 : frz H (bld a L.length 10) = some (encJ.S L) := b1.frz
    have f2 : frz H (bld b G.length 10) = some (encJ.S G) := b2.frz
    have f3 : frz H (bld c S.length 5) = some (encA.S S) := b3.frz
    have f4 : frz H (osl 7 q.failed.length 5) = some (encA.S q.failed) := oslA_frz ((oth 7 (by omega) (by omega)).trans w.g7)
    refine ⟨.tup [.agg [bld a L.length 10, .int .i64 q.next, .int .i64 q.now, osl 7 q.failed.length 5, bld c S.length 5, .bool q.resync], bld b G.length 10], ?_, ?_⟩
    · simp only [resE, resEL, resE1, u4, u5, loadA, rowA, e1, pickA]
      rfl
    · simp only [frz_tup, frzL, frz_agg, f1, f2, f3, f4, frz]
      rfl
  refine fin key.1 key.2 ?_ ?_
  all_goals simp only [upd_app, Nat.reduceEqDiff, ↓reduceIte, t4]
end
end Go.Gi
