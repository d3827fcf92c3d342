/- Tables in memory: dfa.Check, Run: what they give. -/
import Derived.Test.YtakdhioafodhcaaGiGlA
import Derived.Test.YtakdhioafodhcaaGiSO
import Derived.Test.YtakdhioafodhcaaGiDfL
set_option linter.unusedVariables false
set_option linter.unusedSimpArgs false
namespace Go.Gi
open Go Go.Proofs

theorem hmM : Try.prog.follows .mixedOrders = true := hmG
/-- Rows of whole numbers. -/
def encR : Enc (List Int) where
  c l := [encI.S l]
  sz := 1
  pos := by omega
  len _ := rfl
  nd l := by simp only [nidL, Enc.S_nid, Bool.and_self]
  ip := false
  pl h := by cases h
  fz hp l := by simp only [frzL, Enc.S_frz]
  dec := fun
    | [x] => encI.un x
    | _ => none
  dec_c l := encI.un_S l
  dec_some cs a h := by
    split at h
    · rw [encI.un_some h]
    · cases h
def elI : El Int where
  E := encI
  v n := .int .i64 n
  sh := none
  K := .prim
  pk := fun {l i a} h => by
    have := encI.pick1 (l := l) rfl h (v := .int .i64 a) rfl rfl
    simpa [encI] using this
  nt _ := rfl
  ce _ := rfl
  nv _ := rfl
  fz _ _ := rfl
  eq a b := by simp [binA, intA]
  ne a b := by simp [binA, intA, bne]
theorem encI_at {l : List Int} {i : Nat} {n : Int} (h : l[i]? = some n) : pickA none (encI.cs l) i = some (.int .i64 n) :=
  encI.pick1 (l := l) rfl h (v := .int .i64 n) rfl rfl
theorem encR_at {l : List (List Int)} {i : Nat} {r : List Int} (h : l[i]? = some r) : pickA none (encR.cs l) i = some (encI.S r) :=
  encR.pick1 (l := l) rfl h (v := encI.S r) rfl rfl
theorem encT_at {l : List Bool} {i : Nat} {r : Bool} (h : l[i]? = some r) : pickA none (encT.cs l) i = some (.bool r) :=
  encT.pick1 (l := l) rfl h (v := .bool r) rfl rfl

def Dfa.c (d : Dfa) : List AV := [encI.S d.cls, encR.S d.nxt, encT.S d.acc]
theorem Dfa.c_nid (d : Dfa) : nidL d.c = true := by simp only [Dfa.c, nidL, Enc.S_nid, Bool.and_self]
theorem Dfa.c_frz (d : Dfa) (hp : HP) : frzL hp d.c = some d.c := by simp only [Dfa.c, frzL, Enc.S_frz]
theorem Dfa.a_nid (d : Dfa) : nidL [.agg d.c] = true := by simp only [nidL, nid, d.c_nid, Bool.and_self]
def R1.dfa : R1 Dfa where
  v d := .agg d.c
  un := fun
    | .agg [x, y, z] => match encI.un x, encR.un y, encT.un z with
      | some a, some b, some c => some ⟨a, b, c⟩
      | _, _, _ => none
    | _ => none
  un_v d := by simp only [Dfa.c, Enc.un_S]
  un_some x d h := by
    split at h
    · split at h
      · rename_i h1 h2 h3
        cases h
        rw [encI.un_some h1, encR.un_some h2, encT.un_some h3]
        rfl
      · cases h
    · cases h

theorem pNeg1 (x : Int) (w : Nat) : PCF Try.prog 87 [.int .i64 x, .fptr [.int .i64 w] 0] (.bool (!inI w x)) := by
  refine pcf_e hmM (TabOk.none _) comp87 (by decide) (by simp) (nidL_ok rfl) ?_
  unfold inI
  by_cases h : x < 0
  · refine vcE.ex (by simp (disch := first | assumption | omega) only [exC, exOps, exOp, evE, evsE, putE, wantedE, Nat.reduceEqDiff, ↓reduceIte, ROp.run, same, binA, intA, strA, eqA, indexSA, byteA, unA, bounds3, Option.map_some, Option.map_none, dec_true, dec_false, Int.toNat_natCast, Int.natCast_nonneg, beq_self_eq_true, List.append_nil, beq_iff_eq, reduceCtorEq, List.getD_cons_zero, List.getD_cons_succ, loadA, rowA, pickA, bslA, litV, storeA_eq, decide_true, flatA, List.length_cons, List.length_nil, Nat.reduceAdd, List.flatMap_cons, List.flatMap_nil, BEq.rfl, List.cons_append, List.nil_append, if_pos, if_neg, ordered, List.getElem?_cons_zero, List.getElem?_cons_succ, frzL, nidL, frz_func, frz_agg, frz_tup, frz_iface, fresh_func, fresh_agg, fresh_tup, fresh_iface, frz_ptr, frz_sl, fresh_sl, Cls.isFree, Cls.makes, callCls, chain, cond_true, tz, ty, faddrA, allocA, over, List.take_succ_cons, List.take_zero, List.drop_succ_cons, List.drop_zero, List.drop_nil, List.set_cons_zero, List.set_cons_succ, Nat.reduceLeDiff, and_self, h]; rfl) ?_
    refine ⟨_, rfl, ?_⟩
    rw [decide_eq_false (show ¬ 0 ≤ x by omega)]
    rfl
  · by_cases h2 : x < w
    all_goals refine vcE.ex (by simp (disch := first | assumption | omega) only [exC, exOps, exOp, evE, evsE, putE, wantedE, Nat.reduceEqDiff, ↓reduceIte, ROp.run, same, binA, intA, strA, eqA, indexSA, byteA, unA, bounds3, Option.map_some, Option.map_none, dec_true, dec_false, Int.toNat_natCast, Int.natCast_nonneg, beq_self_eq_true, List.append_nil, beq_iff_eq, reduceCtorEq, List.getD_cons_zero, List.getD_cons_succ, loadA, rowA, pickA, bslA, litV, storeA_eq, decide_true, flatA, List.length_cons, List.length_nil, Nat.reduceAdd, List.flatMap_cons, List.flatMap_nil, BEq.rfl, List.cons_append, List.nil_append, if_pos, if_neg, ordered, List.getElem?_cons_zero, List.getElem?_cons_succ, frzL, nidL, frz_func, frz_agg, frz_tup, frz_iface, fresh_func, fresh_agg, fresh_tup, fresh_iface, frz_ptr, frz_sl, fresh_sl, Cls.isFree, Cls.makes, callCls, chain, cond_true, tz, ty, faddrA, allocA, over, List.take_succ_cons, List.take_zero, List.drop_succ_cons, List.drop_zero, List.drop_nil, List.set_cons_zero, List.set_cons_succ, Nat.reduceLeDiff, and_self, h, ge_iff_le]; rfl) ?_
    all_goals refine ⟨_, rfl, ?_⟩
    · have h3 : ¬ ((w : Nat) : Int) ≤ x := by omega
      simp only [upd_app, Nat.reduceEqDiff, ↓reduceIte, fresh_bool, h2, h3, show 0 ≤ x by omega, decide_true, decide_false, Bool.and_self, Bool.not_true]
    · have h3 : ((w : Nat) : Int) ≤ x := by omega
      simp only [upd_app, Nat.reduceEqDiff, ↓reduceIte, fresh_bool, h2, h3, show 0 ≤ x by omega, decide_true, decide_false, Bool.and_false, Bool.not_false]
theorem pNeg2 (x : Int) (d : Dfa) : PCF Try.prog 88 [.int .i64 x, .fptr d.c 0] (.bool (!inI d.nxt.length x)) := by
  refine pcf_e hmM (TabOk.none _) comp88 (by decide) (by simp) (nidL_ok (by simp only [nidL, nid, d.c_nid, Bool.and_self])) ?_
  have hq : pickA none d.c (0 + 1) = some (encR.S d.nxt) := rfl
  unfold inI
  by_cases h : x < 0
  · refine vcE.ex (by simp (disch := first | assumption | omega) only [exC, exOps, exOp, evE, evsE, putE, wantedE, Nat.reduceEqDiff, ↓reduceIte, ROp.run, same, binA, intA, strA, eqA, indexSA, byteA, unA, bounds3, Option.map_some, Option.map_none, dec_true, dec_false, Int.toNat_natCast, Int.natCast_nonneg, beq_self_eq_true, List.append_nil, beq_iff_eq, reduceCtorEq, List.getD_cons_zero, List.getD_cons_succ, loadA, rowA, pickA, bslA, litV, storeA_eq, decide_true, flatA, List.length_cons, List.length_nil, Nat.reduceAdd, List.flatMap_cons, List.flatMap_nil, BEq.rfl, List.cons_append, List.nil_append, if_pos, if_neg, ordered, List.getElem?_cons_zero, List.getElem?_cons_succ, frzL, nidL, frz_func, frz_agg, frz_tup, frz_iface, fresh_func, fresh_agg, fresh_tup, fresh_iface, frz_ptr, frz_sl, fresh_sl, Cls.isFree, Cls.makes, callCls, chain, cond_true, tz, ty, faddrA, allocA, over, List.take_succ_cons, List.take_zero, List.drop_succ_cons, List.drop_zero, List.drop_nil, List.set_cons_zero, List.set_cons_succ, Nat.reduceLeDiff, and_self, h]; rfl) ?_
    refine ⟨_, rfl, ?_⟩
    rw [decide_eq_false (show ¬ 0 ≤ x by omega)]
    rfl
  · by_cases h2 : x < d.nxt.length
    all_goals refine vcE.ex (by simp (disch := first | assumption | omega) only [exC, exOps, exOp, evE, evsE, putE, wantedE, Nat.reduceEqDiff, ↓reduceIte, ROp.run, same, binA, intA, strA, eqA, indexSA, byteA, unA, bounds3, Option.map_some, Option.map_none, dec_true, dec_false, Int.toNat_natCast, Int.natCast_nonneg, beq_self_eq_true, List.append_nil, beq_iff_eq, reduceCtorEq, List.getD_cons_zero, List.getD_cons_succ, loadA, rowA, pickA, bslA, litV, storeA_eq, decide_true, flatA, List.length_cons, List.length_nil, Nat.reduceAdd, List.flatMap_cons, List.flatMap_nil, BEq.rfl, List.cons_append, List.nil_append, if_pos, if_neg, ordered, List.getElem?_cons_zero, List.getElem?_cons_succ, frzL, nidL, frz_func, frz_agg, frz_tup, frz_iface, fresh_func, fresh_agg, fresh_tup, fresh_iface, frz_ptr, frz_sl, fresh_sl, Cls.isFree, Cls.makes, callCls, chain, cond_true, tz, ty, faddrA, allocA, over, List.take_succ_cons, List.take_zero, List.drop_succ_cons, List.drop_zero, List.drop_nil, List.set_cons_zero, List.set_cons_succ, Nat.reduceLeDiff, and_self, h, ge_iff_le, ↓hq, Enc.S_len, Enc.S_fits]; rfl) ?_
    all_goals refine ⟨_, rfl, ?_⟩
    · have h3 : ¬ ((d.nxt.length : Nat) : Int) ≤ x := by omega
      simp only [upd_app, Nat.reduceEqDiff, ↓reduceIte, fresh_bool, h2, h3, show 0 ≤ x by omega, decide_true, decide_false, Bool.and_self, Bool.not_true]
    · have h3 : ((d.nxt.length : Nat) : Int) ≤ x := by omega
      simp only [upd_app, Nat.reduceEqDiff, ↓reduceIte, fresh_bool, h2, h3, show 0 ≤ x by omega, decide_true, decide_false, Bool.and_false, Bool.not_false]

/-- What is asked of each number: one of two questions. -/
def R1.neg : R1 (Nat ⊕ Dfa) where
  v := fun
    | .inl w => .func 87 [.fptr [.int .i64 w] 0]
    | .inr d => .func 88 [.fptr d.c 0]
  un := fun
    | .func g [.fptr [.int .i64 w] 0] => if g = 87 ∧ 0 ≤ w then some (.inl w.toNat) else none
    | .func g [.fptr cs 0] => if g = 88 then (R1.dfa.un (.agg cs)).map .inr else none
    | _ => none
  un_v := fun
    | .inl w => by
      show (if _ then _ else _) = _
      rw [if_pos ⟨rfl, by omega⟩]
      rfl
    | .inr d => by
      show (if 88 = 88 then _ else _) = _
      rw [if_pos rfl]
      have := R1.dfa.un_v d
      show Option.map Sum.inr (R1.dfa.un (R1.dfa.v d)) = _
      rw [this]
      rfl
  un_some x a h := by
    split at h
    · split at h
      · rename_i w hw
        obtain ⟨rfl, hw⟩ := hw
        cases h
        show _ = AV.func _ [.fptr [.int .i64 ((w.toNat : Nat) : Int)] 0]
        rw [Int.toNat_of_nonneg hw]
      · cases h
    · split at h
      · rename_i hg
        subst hg
        cases hd : R1.dfa.un (.agg ‹List AV›) with
        | none => rw [hd] at h; cases h
        | some d =>
          rw [hd] at h
          cases h
          have := R1.dfa.un_some _ _ hd
          show _ = AV.func _ [.fptr d.c 0]
          injection this with e
          rw [e]
      · cases h
    · cases h
def negP : Nat ⊕ Dfa → Int → Bool
  | .inl w, x => !inI w x
  | .inr d, x => !inI d.nxt.length x
def R1.nat : R1 Nat where
  v n := .int .i64 n
  un := fun
    | .int .i64 n => if 0 ≤ n then some n.toNat else none
    | _ => none
  un_v n := by
    show (if (0 : Int) ≤ (n : Int) then some (n : Int).toNat else none) = some n
    rw [if_pos (by omega), Int.toNat_natCast]
  un_some x n h := by
    split at h
    · split at h
      · rename_i h0
        cases h
        rw [Int.toNat_of_nonneg h0]
      · cases h
    · cases h
def R1.pdfa : R1 Dfa where
  v d := .fptr d.c 0
  un := fun
    | .fptr cs 0 => R1.dfa.un (.agg cs)
    | _ => none
  un_v d := R1.dfa.un_v d
  un_some x d h := by
    split at h
    · have := R1.dfa.un_some _ _ h
      injection this with e
      rw [e]
    · cases h
def D0 : Tab := (Tab.none.addR 87 (.cons .i64 (.cons (.fp1 .nat) .nil)) fun p => .rd true (.bool (!inI p.2.1 p.1))).addR 88 (.cons .i64 (.cons .pdfa .nil)) fun p => .rd true (.bool (!inI p.2.1.nxt.length p.1))
theorem D0_ok : TabOk Try.prog D0 := by
  refine TabOk.addR (TabOk.addR (TabOk.none _) ?_) ?_
  · exact fun p => pNeg1 p.1 p.2.1
  · exact fun p => pNeg2 p.1 p.2.1
theorem D0_1 (x : Int) (w : Nat) : D0 87 [.int .i64 x, .fptr [.int .i64 w] 0] = some (.rd true (.bool (!inI w x))) :=
  (Tab.addR_ne _ _ _ _ rfl _).trans (Tab.addR_self _ _ (.cons .i64 (.cons (.fp1 .nat) .nil)) _ (x, w, ()))
theorem D0_2 (x : Int) (d : Dfa) : D0 88 [.int .i64 x, .fptr d.c 0] = some (.rd true (.bool (!inI d.nxt.length x))) :=
  Tab.addR_self _ _ (.cons .i64 (.cons .pdfa .nil)) _ (x, d, ())

theorem negV (p : Nat ⊕ Dfa) : ∃ g cs, R1.neg.v p = .func g [.fptr cs 0] ∧ nidL cs = true ∧ (∀ hp, frzL hp [.fptr cs 0] = some [.fptr cs 0]) ∧ ∀ x, D0 g [.int .i64 x, .fptr cs 0] = some (.rd true (.bool (negP p x))) := by
  cases p with
  | inl w => exact ⟨_, _, rfl, rfl, fun _ => rfl, fun x => D0_1 x w⟩
  | inr d => exact ⟨_, _, rfl, d.c_nid, fun hp => by simp only [frzL, frz, d.c_nid, if_true], fun x => D0_2 x d⟩
theorem pIdx (l : List Int) (hl : l.length ≤ 4611686018427387904) (p : Nat ⊕ Dfa) : PCF Try.prog 117 [encI.S l, R1.neg.v p] (.int .i64 (idx (negP p) l)) := by
  obtain ⟨g, cs, h1, h2, h3, h4⟩ := negV p
  rw [h1]
  exact indexL_pc hmM D0_ok elI comp117 h3 (by simp only [nidL, nid, h2, Bool.and_self]) hl fun a _ => h4 a
def D1 : Tab := D0.addO 117 (.cons (.S encI) (.cons .neg .nil)) fun p => if p.1.length ≤ 4611686018427387904 then some (.rd true (.int .i64 (idx (negP p.2.1) p.1))) else none
theorem D1_ok : TabOk Try.prog D1 := by
  refine TabOk.addO D0_ok ?_
  intro p r h
  split at h
  · rename_i hv; cases h; exact pIdx p.1 hv p.2.1
  · cases h
theorem pHas (l : List Int) (hl : l.length ≤ 4611686018427387904) (p : Nat ⊕ Dfa) : PCF Try.prog 86 [encI.S l, R1.neg.v p] (.bool (l.any (negP p))) := by
  have h0 : D1 117 [encI.S l, R1.neg.v p] = _ := (Tab.addO_self _ _ (.cons (.S encI) (.cons .neg .nil)) _ (l, p, ())).trans (if_pos hl)
  obtain ⟨g, cs, h1, h2, h3, h4⟩ := negV p
  rw [h1] at h0 ⊢
  rw [← idx_ge]
  refine contains_pc hmM D1_ok comp86 (encI.S_nid l) (by simp only [nid, nidL, h2, Bool.and_self]) (encI.S_frz _ l) ?_ h0
  have := h3 []
  rw [frz_func, this]
def D2 : Tab := D1.addO 86 (.cons (.S encI) (.cons .neg .nil)) fun p => if p.1.length ≤ 4611686018427387904 then some (.rd true (.bool (p.1.any (negP p.2.1)))) else none
theorem D2_ok : TabOk Try.prog D2 := by
  refine TabOk.addO D1_ok ?_
  intro p r h
  split at h
  · rename_i hv; cases h; exact pHas p.1 hv p.2.1
  · cases h
theorem D2_has {l : List Int} (hl : l.length ≤ 4611686018427387904) (p : Nat ⊕ Dfa) : D2 86 [encI.S l, R1.neg.v p] = some (.rd true (.bool (l.any (negP p)))) :=
  (Tab.addO_self _ _ (.cons (.S encI) (.cons .neg .nil)) _ (l, p, ())).trans (if_pos hl)

end Go.Gi
