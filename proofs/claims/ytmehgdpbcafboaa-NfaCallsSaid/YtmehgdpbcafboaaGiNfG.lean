/- States: a run matches what the glob matches. -/
import Derived.Test.YtmehgdpbcafboaaGiNfF
set_option linter.unusedVariables false
set_option linter.unusedSimpArgs false
namespace Go.Gi
open Go Go.Proofs

/-! ### A row's list rises -/
theorem lst_eq (N : Nat) (b : Nat → Bool) : lst N b = ((List.range N).filter b).map fun (i : Nat) => (i : Int) := by
  unfold lst listB listTo
  rw [rowB_len]
  congr 1
  refine List.filter_congr fun i hi => ?_
  rw [rowB_get (List.mem_range.1 hi)]
  cases b i <;> simp
theorem lst_mem {N : Nat} {b : Nat → Bool} {v : Int} : v ∈ lst N b ↔ ∃ i : Nat, i < N ∧ b i = true ∧ v = i := by
  rw [lst_eq, List.mem_map]
  constructor
  · rintro ⟨i, hi, rfl⟩
    rw [List.mem_filter, List.mem_range] at hi
    exact ⟨i, hi.1, hi.2, rfl⟩
  · rintro ⟨i, h1, h2, rfl⟩
    exact ⟨i, List.mem_filter.2 ⟨List.mem_range.2 h1, h2⟩, rfl⟩
theorem ofS_lst {N : Nat} {b : Nat → Bool} {j : Nat} (h : j < N) : ofS (lst N b) j = b j := by
  rw [Bool.eq_iff_iff, ofS, decide_eq_true_eq, lst_mem]
  constructor
  · rintro ⟨i, _, h2, h3⟩
    have : j = i := by omega
    subst this
    exact h2
  · exact fun h2 => ⟨j, h, h2, rfl⟩
theorem lst_len (N : Nat) (b : Nat → Bool) : (lst N b).length ≤ N := by
  unfold lst listB
  rw [rowB_len]
  exact listTo_len _ _
theorem lst_rise (N : Nat) (b : Nat → Bool) : (lst N b).Pairwise (· < ·) := by
  rw [lst_eq, List.pairwise_map]
  have := (List.pairwise_lt_range (n := N)).filter b
  exact this.imp fun h => by omega
theorem lst_rise_at {N : Nat} {b : Nat → Bool} {k : Nat} {u v : Int} (h1 : (lst N b)[k]? = some u) (h2 : (lst N b)[k + 1]? = some v) : u < v := by
  have h := lst_rise N b
  rw [List.pairwise_iff_getElem] at h
  obtain ⟨k1, e1⟩ := List.getElem?_eq_some_iff.1 h1
  obtain ⟨k2, e2⟩ := List.getElem?_eq_some_iff.1 h2
  have := h k (k + 1) k1 k2 (by omega)
  rw [e1, e2] at this
  exact this
theorem lst_congr {N : Nat} {b b' : Nat → Bool} (h : ∀ i, i < N → b i = b' i) : lst N b = lst N b' := by
  unfold lst
  rw [rowB_congr h]
theorem lst_step {x : Option (List UInt8 × Bool)} (h : okV x) {r : Nat → Bool} {c : UInt8} : lst (nN x) (stepV x (ofS (lst (nN x) r)) c) = lst (nN x) (stepV x r c) := by
  have := stepV_congr h (c := c) (ofS (lst (nN x) r)) r fun i hi => ofS_lst hi
  show listB _ = listB _
  rw [this]
theorem acc_lst {x : Option (List UInt8 × Bool)} (h : okV x) {r : Nat → Bool} : accV x (ofS (lst (nN x) r)) = accV x r := by
  cases x with
  | none => rfl
  | some a =>
    obtain ⟨p, f⟩ := a
    simp only [accV]
    rw [nN_some h.1]
    exact ofS_lst (by omega)
/-- Behind a text a run is at the length exactly if the glob matches the text. -/
theorem acc_run {p : List UInt8} {f : Bool} (h : checkG p = 0) (t : List UInt8) : accV (newV p f) (runV (newV p f) t (startV (newV p f))) = gm (sameB f) p t := by
  unfold newV
  rw [if_pos h]
  simp only [accV, runV_some, startV]
  rw [run_at t (t := []) (fun i hi => start_at hi) _ (Nat.le_refl _), List.nil_append, at_end, gm_norm]

theorem i64_lst {N k : Nat} {b : Nat → Bool} (h : k < (lst N b).length) {kk : IntKind} : iaddrA 1 (encI.S (lst N b)) (.int kk k) = some (.fptr (encI.cs (lst N b)) k) := encI_iaddr h
/-- The check that a list rises, and is of states. -/
theorem rise_loop {x : Option (List UInt8 × Bool)} (hx : okW x) {r : Nat → Bool} {tm : Env} {hp : HP} (e7 : tm 7 = nV x) (e9 : tm 9 = encI.S (lst (nN x) r)) (e11 : tm 11 = .int .i64 0) (hint : Nat → Nat) {n : Nat} : vcE Try.prog hint H5 n (IC.block 2 (IC.loop b14_0)) tm hp fun e tm' hp' => e = .normal ∧ hp' = hp ∧ ∀ i, i < 11 → tm' i = tm i := by
  have hlen := lst_len (nN x) r
  have hn := hx.2
  refine vcE.block (vcE.count (by intro l tm hp h; simp at h) (fun k tm' hp' => hp' = hp ∧ tm' 11 = .int .i64 k ∧ ∀ i, i < 11 → tm' i = tm i) (lst (nN x) r).length ⟨rfl, e11, fun _ _ => rfl⟩ ?_ ?_)
  · rintro k tm' hp' hk ⟨rfl, h11, hs⟩
    have h7 := (hs 7 (by omega)).trans e7
    have h9 := (hs 9 (by omega)).trans e9
    obtain ⟨v, hv⟩ : ∃ v, (lst (nN x) r)[k]? = some v := ⟨_, List.getElem?_eq_getElem hk⟩
    have hpick := encI.pick1 (l := lst (nN x) r) rfl hv (v := .int .i64 v) rfl rfl
    obtain ⟨i, hi1, _, hi2⟩ := lst_mem.1 (List.mem_of_getElem? hv)
    have hia := i64_lst (b := r) hk (kk := .i64)
    have hst := H5_states x hx.1.small
    have hfz := nV_frz x
    have hnid := nV_nid x
    by_cases hk0 : k = 0
    · subst hk0
      refine vcE.ex (by simp (disch := omega) only [exC, exOps, exOp, evE, evsE, putE, wantedE, Nat.reduceEqDiff, ↓reduceIte, ROp.run, same, binA, intA, strA, eqA, indexSA, byteA, unA, bounds3, Option.map_some, Option.map_none, dec_true, dec_false, Int.toNat_natCast, Int.natCast_nonneg, beq_self_eq_true, List.append_nil, beq_iff_eq, reduceCtorEq, List.getD_cons_zero, List.getD_cons_succ, loadA, rowA, pickA, bslA, storeA_eq, decide_true, flatA, List.length_cons, List.length_nil, Nat.reduceAdd, List.flatMap_cons, List.flatMap_nil, BEq.rfl, List.cons_append, List.nil_append, if_pos, if_neg, ordered, List.getElem?_cons_zero, List.getElem?_cons_succ, frzL, nidL, frz_func, frz_agg, frz_tup, frz_iface, fresh_func, fresh_agg, fresh_tup, fresh_iface, frz_ptr, frz_sl, fresh_sl, Cls.isFree, Cls.makes, callCls, chain, cond_true, tz, ty, faddrA, allocA, over, List.take_succ_cons, List.take_zero, List.drop_succ_cons, List.drop_zero, List.drop_nil, List.set_cons_zero, List.set_cons_succ, Nat.reduceLeDiff, and_self, h7, h9, h11, ↓hpick, hia, hst, hfz, hnid, Enc.S_len, Enc.S_nid, hi2]; rfl) ?_
      refine ⟨rfl, rfl, fun j hj => ?_⟩
      simp only [upd_app, ← hs j hj]
      repeat' (rw [if_neg (by omega)])
    · obtain ⟨m, rfl⟩ : ∃ m, k = m + 1 := ⟨k - 1, by omega⟩
      obtain ⟨u, hu⟩ : ∃ u, (lst (nN x) r)[m]? = some u := ⟨_, List.getElem?_eq_getElem (by omega)⟩
      have hpick2 := encI.pick1 (l := lst (nN x) r) rfl hu (v := .int .i64 u) rfl rfl
      have hia2 := i64_lst (N := nN x) (b := r) (k := m) (by omega) (kk := .i64)
      have huv := lst_rise_at hu hv
      have e1 : ((m + 1 : Nat) : Int) - 1 = (m : Int) := by omega
      refine vcE.ex (by simp (disch := omega) only [exC, exOps, exOp, evE, evsE, putE, wantedE, Nat.reduceEqDiff, ↓reduceIte, ROp.run, same, binA, intA, strA, eqA, indexSA, byteA, unA, bounds3, Option.map_some, Option.map_none, dec_true, dec_false, Int.toNat_natCast, Int.natCast_nonneg, beq_self_eq_true, List.append_nil, beq_iff_eq, reduceCtorEq, List.getD_cons_zero, List.getD_cons_succ, loadA, rowA, pickA, bslA, storeA_eq, decide_true, flatA, List.length_cons, List.length_nil, Nat.reduceAdd, List.flatMap_cons, List.flatMap_nil, BEq.rfl, List.cons_append, List.nil_append, if_pos, if_neg, ordered, List.getElem?_cons_zero, List.getElem?_cons_succ, frzL, nidL, frz_func, frz_agg, frz_tup, frz_iface, fresh_func, fresh_agg, fresh_tup, fresh_iface, frz_ptr, frz_sl, fresh_sl, Cls.isFree, Cls.makes, callCls, chain, cond_true, tz, ty, faddrA, allocA, over, List.take_succ_cons, List.take_zero, List.drop_succ_cons, List.drop_zero, List.drop_nil, List.set_cons_zero, List.set_cons_succ, Nat.reduceLeDiff, and_self, h7, h9, h11, ↓hpick, ↓hpick2, hia, hia2, hst, hfz, hnid, Enc.S_len, Enc.S_nid, hi2, e1]; rfl) ?_
      refine ⟨rfl, rfl, fun j hj => ?_⟩
      simp only [upd_app, ← hs j hj]
      repeat' (rw [if_neg (by omega)])
  · rintro tm' hp' ⟨rfl, h11, hs⟩
    have h9 := (hs 9 (by omega)).trans e9
    refine vcE.ex (by simp (disch := omega) only [exC, exOps, exOp, evE, evsE, putE, wantedE, Nat.reduceEqDiff, ↓reduceIte, ROp.run, same, binA, intA, strA, eqA, indexSA, byteA, unA, bounds3, Option.map_some, Option.map_none, dec_true, dec_false, Int.toNat_natCast, Int.natCast_nonneg, beq_self_eq_true, List.append_nil, beq_iff_eq, reduceCtorEq, List.getD_cons_zero, List.getD_cons_succ, loadA, rowA, pickA, bslA, storeA_eq, decide_true, flatA, List.length_cons, List.length_nil, Nat.reduceAdd, List.flatMap_cons, List.flatMap_nil, BEq.rfl, List.cons_append, List.nil_append, if_pos, if_neg, ordered, List.getElem?_cons_zero, List.getElem?_cons_succ, frzL, nidL, frz_func, frz_agg, frz_tup, frz_iface, fresh_func, fresh_agg, fresh_tup, fresh_iface, frz_ptr, frz_sl, fresh_sl, Cls.isFree, Cls.makes, callCls, chain, cond_true, tz, ty, faddrA, allocA, over, List.take_succ_cons, List.take_zero, List.drop_succ_cons, List.drop_zero, List.drop_nil, List.set_cons_zero, List.set_cons_succ, Nat.reduceLeDiff, and_self, h9, h11, Enc.S_len]; rfl) ?_
    refine ⟨rfl, rfl, fun j hj => ?_⟩
    simp only [upd_app, ← hs j hj]
    repeat' (rw [if_neg (by omega)])

theorem lawRun (p : List UInt8) (f : Bool) (t : List UInt8) (hp0 : p.length ≤ reachBytes) (ht0 : t.length ≤ reachBytes) : PC Try.prog 14 [.str p, .bool f, .str t] (.bool true) := by
  refine pc_e hmG H5_ok comp14 (by decide) (by simp) (nidL_ok rfl) ?_
  have hlt := H5_light p t
  refine vcE.step (by simp only [exC, exOps, exOp, evE, evsE, putE, wantedE, Nat.reduceEqDiff, ↓reduceIte, ROp.run, same, binA, intA, strA, eqA, indexSA, byteA, unA, bounds3, Option.map_some, Option.map_none, dec_true, dec_false, Int.toNat_natCast, Int.natCast_nonneg, beq_self_eq_true, List.append_nil, beq_iff_eq, reduceCtorEq, List.getD_cons_zero, List.getD_cons_succ, loadA, rowA, pickA, bslA, storeA_eq, decide_true, flatA, List.length_cons, List.length_nil, Nat.reduceAdd, List.flatMap_cons, List.flatMap_nil, BEq.rfl, List.cons_append, List.nil_append, if_pos, if_neg, ordered, List.getElem?_cons_zero, List.getElem?_cons_succ, frzL, nidL, frz_func, frz_agg, frz_tup, frz_iface, fresh_func, fresh_agg, fresh_tup, fresh_iface, frz_ptr, frz_sl, fresh_sl, Cls.isFree, Cls.makes, callCls, chain, cond_true, tz, ty]; rfl) (vcE.step (by simp only [exC, exOps, exOp, evE, evsE, putE, wantedE, Nat.reduceEqDiff, ↓reduceIte, ROp.run, same, binA, intA, strA, eqA, indexSA, byteA, unA, bounds3, Option.map_some, Option.map_none, dec_true, dec_false, Int.toNat_natCast, Int.natCast_nonneg, beq_self_eq_true, List.append_nil, beq_iff_eq, reduceCtorEq, List.getD_cons_zero, List.getD_cons_succ, loadA, rowA, pickA, bslA, storeA_eq, decide_true, flatA, List.length_cons, List.length_nil, Nat.reduceAdd, List.flatMap_cons, List.flatMap_nil, BEq.rfl, List.cons_append, List.nil_append, if_pos, if_neg, ordered, List.getElem?_cons_zero, List.getElem?_cons_succ, frzL, nidL, frz_func, frz_agg, frz_tup, frz_iface, fresh_func, fresh_agg, fresh_tup, fresh_iface, frz_ptr, frz_sl, fresh_sl, Cls.isFree, Cls.makes, callCls, chain, cond_true, tz, ty, H5_lives]; rfl) ?_)
  by_cases hl : lightN p t = true
  · rw [hl] at hlt
    simp only [lightN, Bool.and_eq_true, decide_eq_true_eq] at hl
    obtain ⟨hl1, hl2⟩ := hl
    have hnew := H5_new p f hl1
    have hW := newV_ok (f := f) hl1
    have hfz := nV_frz (newV p f)
    have hnid := nV_nid (newV p f)
    refine vcE.step (by simp only [exC, exOps, exOp, evE, evsE, putE, wantedE, Nat.reduceEqDiff, ↓reduceIte, ROp.run, same, binA, intA, strA, eqA, indexSA, byteA, unA, bounds3, Option.map_some, Option.map_none, dec_true, dec_false, Int.toNat_natCast, Int.natCast_nonneg, beq_self_eq_true, List.append_nil, beq_iff_eq, reduceCtorEq, List.getD_cons_zero, List.getD_cons_succ, loadA, rowA, pickA, bslA, storeA_eq, decide_true, flatA, List.length_cons, List.length_nil, Nat.reduceAdd, List.flatMap_cons, List.flatMap_nil, BEq.rfl, List.cons_append, List.nil_append, if_pos, if_neg, ordered, List.getElem?_cons_zero, List.getElem?_cons_succ, frzL, nidL, frz_func, frz_agg, frz_tup, frz_iface, fresh_func, fresh_agg, fresh_tup, fresh_iface, frz_ptr, frz_sl, fresh_sl, Cls.isFree, Cls.makes, callCls, chain, cond_true, tz, ty, hlt]; rfl) (vcE.step (by simp (disch := omega) only [exC, exOps, exOp, evE, evsE, putE, wantedE, Nat.reduceEqDiff, ↓reduceIte, ROp.run, same, binA, intA, strA, eqA, indexSA, byteA, unA, bounds3, Option.map_some, Option.map_none, dec_true, dec_false, Int.toNat_natCast, Int.natCast_nonneg, beq_self_eq_true, List.append_nil, beq_iff_eq, reduceCtorEq, List.getD_cons_zero, List.getD_cons_succ, loadA, rowA, pickA, bslA, storeA_eq, decide_true, flatA, List.length_cons, List.length_nil, Nat.reduceAdd, List.flatMap_cons, List.flatMap_nil, BEq.rfl, List.cons_append, List.nil_append, if_pos, if_neg, ordered, List.getElem?_cons_zero, List.getElem?_cons_succ, frzL, nidL, frz_func, frz_agg, frz_tup, frz_iface, fresh_func, fresh_agg, fresh_tup, fresh_iface, frz_ptr, frz_sl, fresh_sl, Cls.isFree, Cls.makes, callCls, chain, cond_true, tz, ty, hnew]; rfl) ?_)
    by_cases hc : checkG p = 0
    · have hrun := acc_run (f := f) hc
      have hstart := H5_start (newV p f) hW
      refine vcE.step (by simp (disch := first | assumption | omega) only [exC, exOps, exOp, evE, evsE, putE, wantedE, Nat.reduceEqDiff, ↓reduceIte, ROp.run, same, binA, intA, strA, eqA, indexSA, byteA, unA, bounds3, Option.map_some, Option.map_none, dec_true, dec_false, Int.toNat_natCast, Int.natCast_nonneg, beq_self_eq_true, List.append_nil, beq_iff_eq, reduceCtorEq, List.getD_cons_zero, List.getD_cons_succ, loadA, rowA, pickA, bslA, storeA_eq, decide_true, flatA, List.length_cons, List.length_nil, Nat.reduceAdd, List.flatMap_cons, List.flatMap_nil, BEq.rfl, List.cons_append, List.nil_append, if_pos, if_neg, ordered, List.getElem?_cons_zero, List.getElem?_cons_succ, frzL, nidL, frz_func, frz_agg, frz_tup, frz_iface, fresh_func, fresh_agg, fresh_tup, fresh_iface, frz_ptr, frz_sl, fresh_sl, Cls.isFree, Cls.makes, callCls, chain, cond_true, tz, ty]; rfl) (vcE.step (by simp (disch := omega) only [exC, exOps, exOp, evE, evsE, putE, wantedE, Nat.reduceEqDiff, ↓reduceIte, ROp.run, same, binA, intA, strA, eqA, indexSA, byteA, unA, bounds3, Option.map_some, Option.map_none, dec_true, dec_false, Int.toNat_natCast, Int.natCast_nonneg, beq_self_eq_true, List.append_nil, beq_iff_eq, reduceCtorEq, List.getD_cons_zero, List.getD_cons_succ, loadA, rowA, pickA, bslA, storeA_eq, decide_true, flatA, List.length_cons, List.length_nil, Nat.reduceAdd, List.flatMap_cons, List.flatMap_nil, BEq.rfl, List.cons_append, List.nil_append, if_pos, if_neg, ordered, List.getElem?_cons_zero, List.getElem?_cons_succ, frzL, nidL, frz_func, frz_agg, frz_tup, frz_iface, fresh_func, fresh_agg, fresh_tup, fresh_iface, frz_ptr, frz_sl, fresh_sl, Cls.isFree, Cls.makes, callCls, chain, cond_true, tz, ty, hstart, hfz, hnid]; rfl) (vcE.then (fun e tm hp => e = .normal ∧ tm 0 = .str p ∧ tm 1 = .bool f ∧ tm 2 = .str t ∧ tm 7 = nV (newV p f)) ?_ ?_))
      · refine vcE.step (by simp only [exC, exOps, exOp, evE, evsE, putE, wantedE, Nat.reduceEqDiff, ↓reduceIte, ROp.run, same, binA, intA, strA, eqA, indexSA, byteA, unA, bounds3, Option.map_some, Option.map_none, dec_true, dec_false, Int.toNat_natCast, Int.natCast_nonneg, beq_self_eq_true, List.append_nil, beq_iff_eq, reduceCtorEq, List.getD_cons_zero, List.getD_cons_succ, loadA, rowA, pickA, bslA, storeA_eq, decide_true, flatA, List.length_cons, List.length_nil, Nat.reduceAdd, List.flatMap_cons, List.flatMap_nil, BEq.rfl, List.cons_append, List.nil_append, if_pos, if_neg, ordered, List.getElem?_cons_zero, List.getElem?_cons_succ, frzL, nidL, frz_func, frz_agg, frz_tup, frz_iface, fresh_func, fresh_agg, fresh_tup, fresh_iface, frz_ptr, frz_sl, fresh_sl, Cls.isFree, Cls.makes, callCls, chain, cond_true, tz, ty]; rfl) (vcE.block (vcE.loop (by intro l tm hp h; simp at h) (fun m tm hp => ∃ i, i ≤ t.length + 1 ∧ m = t.length + 1 - i ∧ tm 0 = .str p ∧ tm 1 = .bool f ∧ tm 2 = .str t ∧ tm 7 = nV (newV p f) ∧ tm 10 = .int .i64 i ∧ (i ≤ t.length → tm 9 = encI.S (lst (nN (newV p f)) (runV (newV p f) (t.take i) (startV (newV p f)))))) (t.length + 1) ⟨0, by omega, rfl, ?_, ?_, ?_, ?_, ?_, fun _ => ?_⟩ ?_))
        · rfl
        · rfl
        · rfl
        · rfl
        · rfl
        · simp only [upd_app, Nat.reduceEqDiff, ↓reduceIte]; rfl
        · rintro m tm hp ⟨i, hi, rfl, e0, e1, e2, e7, e10, e9⟩
          by_cases hit : i ≤ t.length
          · have e9 := e9 hit
            have hll := lst_len (nN (newV p f)) (runV (newV p f) (t.take i) (startV (newV p f)))
            have hacc := H5_acc (newV p f) (lst (nN (newV p f)) (runV (newV p f) (t.take i) (startV (newV p f)))) (by have := hW.2; omega) hW
            rw [acc_lst hW.1, hrun] at hacc
            have htl : (t.take i).length = i := by rw [List.length_take]; omega
            have hmt := H5_match p (t.take i) f (by omega) (by omega)
            have hsl : sliceA 0 (.str t) none (some (.int .i64 i)) none = some (.str (t.take i)) := by
              have e1 : (i : Int).toNat = i := rfl
              simp [sliceA, bndA, cutA]
              omega
            refine vcE.step (by simp (disch := omega) only [exC, exOps, exOp, evE, evsE, putE, wantedE, Nat.reduceEqDiff, ↓reduceIte, ROp.run, same, binA, intA, strA, eqA, indexSA, byteA, unA, bounds3, Option.map_some, Option.map_none, dec_true, dec_false, Int.toNat_natCast, Int.natCast_nonneg, beq_self_eq_true, List.append_nil, beq_iff_eq, reduceCtorEq, List.getD_cons_zero, List.getD_cons_succ, loadA, rowA, pickA, bslA, storeA_eq, decide_true, flatA, List.length_cons, List.length_nil, Nat.reduceAdd, List.flatMap_cons, List.flatMap_nil, BEq.rfl, List.cons_append, List.nil_append, if_pos, if_neg, ordered, List.getElem?_cons_zero, List.getElem?_cons_succ, frzL, nidL, frz_func, frz_agg, frz_tup, frz_iface, fresh_func, fresh_agg, fresh_tup, fresh_iface, frz_ptr, frz_sl, fresh_sl, Cls.isFree, Cls.makes, callCls, chain, cond_true, tz, ty, e2, e10]; rfl) (vcE.seq (vcE.block (vcE.step (by simp (disch := omega) only [exC, exOps, exOp, evE, evsE, putE, wantedE, Nat.reduceEqDiff, ↓reduceIte, ROp.run, same, binA, intA, strA, eqA, indexSA, byteA, unA, bounds3, Option.map_some, Option.map_none, dec_true, dec_false, Int.toNat_natCast, Int.natCast_nonneg, beq_self_eq_true, List.append_nil, beq_iff_eq, reduceCtorEq, List.getD_cons_zero, List.getD_cons_succ, loadA, rowA, pickA, bslA, storeA_eq, decide_true, flatA, List.length_cons, List.length_nil, Nat.reduceAdd, List.flatMap_cons, List.flatMap_nil, BEq.rfl, List.cons_append, List.nil_append, if_pos, if_neg, ordered, List.getElem?_cons_zero, List.getElem?_cons_succ, frzL, nidL, frz_func, frz_agg, frz_tup, frz_iface, fresh_func, fresh_agg, fresh_tup, fresh_iface, frz_ptr, frz_sl, fresh_sl, Cls.isFree, Cls.makes, callCls, chain, cond_true, tz, ty, faddrA, allocA, over, List.take_succ_cons, List.take_zero, List.drop_succ_cons, List.drop_zero, List.drop_nil, List.set_cons_zero, List.set_cons_succ, Nat.reduceLeDiff, and_self, e0, e1, e2, e7, e9, e10, hacc, hmt, hsl, hfz, hnid, Enc.S_nid]; rfl) (vcE.seq (vcE.step (by simp only [exC, exOps, exOp, evE, evsE, putE, wantedE, Nat.reduceEqDiff, ↓reduceIte, ROp.run, same, binA, intA, strA, eqA, indexSA, byteA, unA, bounds3, Option.map_some, Option.map_none, dec_true, dec_false, Int.toNat_natCast, Int.natCast_nonneg, beq_self_eq_true, List.append_nil, beq_iff_eq, reduceCtorEq, List.getD_cons_zero, List.getD_cons_succ, loadA, rowA, pickA, bslA, storeA_eq, decide_true, flatA, List.length_cons, List.length_nil, Nat.reduceAdd, List.flatMap_cons, List.flatMap_nil, BEq.rfl, List.cons_append, List.nil_append, if_pos, if_neg, ordered, List.getElem?_cons_zero, List.getElem?_cons_succ, frzL, nidL, frz_func, frz_agg, frz_tup, frz_iface, fresh_func, fresh_agg, fresh_tup, fresh_iface, frz_ptr, frz_sl, fresh_sl, Cls.isFree, Cls.makes, callCls, chain, cond_true, tz, ty]; rfl) ((rise_loop hW (r := runV (newV p f) (t.take i) (startV (newV p f))) ?_ ?_ ?_ _).mono ?_))))))
            · simp only [upd_app, Nat.reduceEqDiff, ↓reduceIte, e7]
            · simp only [upd_app, Nat.reduceEqDiff, ↓reduceIte, e9]
            · simp only [upd_app, Nat.reduceEqDiff, ↓reduceIte]
            · rintro e tm' hp' ⟨rfl, rfl, hs⟩
              have g0 := hs 0 (by omega)
              have g1 := hs 1 (by omega)
              have g2 := hs 2 (by omega)
              have g7 := hs 7 (by omega)
              have g9 := hs 9 (by omega)
              have g10 := hs 10 (by omega)
              simp only [upd_app, Nat.reduceEqDiff, ↓reduceIte, e0, e1, e2, e7, e9, e10] at g0 g1 g2 g7 g9 g10
              by_cases hlt' : i < t.length
              · obtain ⟨c, hcc⟩ : ∃ c, t[i]? = some c := ⟨_, List.getElem?_eq_getElem hlt'⟩
                have hstep := H5_step (newV p f) (lst (nN (newV p f)) (runV (newV p f) (t.take i) (startV (newV p f)))) c (by have := hW.2; omega) hW
                rw [lst_step hW.1] at hstep
                refine vcE.ex (by simp (disch := omega) only [exC, exOps, exOp, evE, evsE, putE, wantedE, Nat.reduceEqDiff, ↓reduceIte, ROp.run, same, binA, intA, strA, eqA, indexSA, byteA, unA, bounds3, Option.map_some, Option.map_none, dec_true, dec_false, Int.toNat_natCast, Int.natCast_nonneg, beq_self_eq_true, List.append_nil, beq_iff_eq, reduceCtorEq, List.getD_cons_zero, List.getD_cons_succ, loadA, rowA, pickA, bslA, storeA_eq, decide_true, flatA, List.length_cons, List.length_nil, Nat.reduceAdd, List.flatMap_cons, List.flatMap_nil, BEq.rfl, List.cons_append, List.nil_append, if_pos, if_neg, ordered, List.getElem?_cons_zero, List.getElem?_cons_succ, frzL, nidL, frz_func, frz_agg, frz_tup, frz_iface, fresh_func, fresh_agg, fresh_tup, fresh_iface, frz_ptr, frz_sl, fresh_sl, Cls.isFree, Cls.makes, callCls, chain, cond_true, tz, ty, faddrA, allocA, over, List.take_succ_cons, List.take_zero, List.drop_succ_cons, List.drop_zero, List.drop_nil, List.set_cons_zero, List.set_cons_succ, Nat.reduceLeDiff, and_self, g2, g7, g9, g10, hcc, hstep, hfz, hnid, Enc.S_nid]; rfl) ?_
                refine vcE.ex (by simp (disch := omega) only [exC, exOps, exOp, evE, evsE, putE, wantedE, Nat.reduceEqDiff, ↓reduceIte, ROp.run, same, binA, intA, strA, eqA, indexSA, byteA, unA, bounds3, Option.map_some, Option.map_none, dec_true, dec_false, Int.toNat_natCast, Int.natCast_nonneg, beq_self_eq_true, List.append_nil, beq_iff_eq, reduceCtorEq, List.getD_cons_zero, List.getD_cons_succ, loadA, rowA, pickA, bslA, storeA_eq, decide_true, flatA, List.length_cons, List.length_nil, Nat.reduceAdd, List.flatMap_cons, List.flatMap_nil, BEq.rfl, List.cons_append, List.nil_append, if_pos, if_neg, ordered, List.getElem?_cons_zero, List.getElem?_cons_succ, frzL, nidL, frz_func, frz_agg, frz_tup, frz_iface, fresh_func, fresh_agg, fresh_tup, fresh_iface, frz_ptr, frz_sl, fresh_sl, Cls.isFree, Cls.makes, callCls, chain, cond_true, tz, ty, g10]; rfl) ?_
                refine ⟨t.length + 1 - (i + 1), by omega, i + 1, by omega, rfl, ?_, ?_, ?_, ?_, ?_, fun _ => ?_⟩
                · simp only [upd_app, Nat.reduceEqDiff, ↓reduceIte, g0]
                · simp only [upd_app, Nat.reduceEqDiff, ↓reduceIte, g1]
                · simp only [upd_app, Nat.reduceEqDiff, ↓reduceIte, g2]
                · simp only [upd_app, Nat.reduceEqDiff, ↓reduceIte, g7]
                · simp only [upd_app, Nat.reduceEqDiff, ↓reduceIte]; rfl
                · simp only [upd_app, Nat.reduceEqDiff, ↓reduceIte]
                  rw [show t.take (i + 1) = t.take i ++ [c] by rw [List.take_add_one, hcc]; rfl, runV_snoc]
              · refine vcE.ex (by simp (disch := omega) only [exC, exOps, exOp, evE, evsE, putE, wantedE, Nat.reduceEqDiff, ↓reduceIte, ROp.run, same, binA, intA, strA, eqA, indexSA, byteA, unA, bounds3, Option.map_some, Option.map_none, dec_true, dec_false, Int.toNat_natCast, Int.natCast_nonneg, beq_self_eq_true, List.append_nil, beq_iff_eq, reduceCtorEq, List.getD_cons_zero, List.getD_cons_succ, loadA, rowA, pickA, bslA, storeA_eq, decide_true, flatA, List.length_cons, List.length_nil, Nat.reduceAdd, List.flatMap_cons, List.flatMap_nil, BEq.rfl, List.cons_append, List.nil_append, if_pos, if_neg, ordered, List.getElem?_cons_zero, List.getElem?_cons_succ, frzL, nidL, frz_func, frz_agg, frz_tup, frz_iface, fresh_func, fresh_agg, fresh_tup, fresh_iface, frz_ptr, frz_sl, fresh_sl, Cls.isFree, Cls.makes, callCls, chain, cond_true, tz, ty, faddrA, allocA, over, List.take_succ_cons, List.take_zero, List.drop_succ_cons, List.drop_zero, List.drop_nil, List.set_cons_zero, List.set_cons_succ, Nat.reduceLeDiff, and_self, g2, g10]; rfl) ?_
                refine vcE.ex (by simp (disch := omega) only [exC, exOps, exOp, evE, evsE, putE, wantedE, Nat.reduceEqDiff, ↓reduceIte, ROp.run, same, binA, intA, strA, eqA, indexSA, byteA, unA, bounds3, Option.map_some, Option.map_none, dec_true, dec_false, Int.toNat_natCast, Int.natCast_nonneg, beq_self_eq_true, List.append_nil, beq_iff_eq, reduceCtorEq, List.getD_cons_zero, List.getD_cons_succ, loadA, rowA, pickA, bslA, storeA_eq, decide_true, flatA, List.length_cons, List.length_nil, Nat.reduceAdd, List.flatMap_cons, List.flatMap_nil, BEq.rfl, List.cons_append, List.nil_append, if_pos, if_neg, ordered, List.getElem?_cons_zero, List.getElem?_cons_succ, frzL, nidL, frz_func, frz_agg, frz_tup, frz_iface, fresh_func, fresh_agg, fresh_tup, fresh_iface, frz_ptr, frz_sl, fresh_sl, Cls.isFree, Cls.makes, callCls, chain, cond_true, tz, ty, g10]; rfl) ?_
                refine ⟨t.length + 1 - (i + 1), by omega, i + 1, by omega, rfl, ?_, ?_, ?_, ?_, ?_, fun h => by omega⟩
                · simp only [upd_app, Nat.reduceEqDiff, ↓reduceIte, g0]
                · simp only [upd_app, Nat.reduceEqDiff, ↓reduceIte, g1]
                · simp only [upd_app, Nat.reduceEqDiff, ↓reduceIte, g2]
                · simp only [upd_app, Nat.reduceEqDiff, ↓reduceIte, g7]
                · simp only [upd_app, Nat.reduceEqDiff, ↓reduceIte]; rfl
          · refine vcE.ex (by simp (disch := omega) only [exC, exOps, exOp, evE, evsE, putE, wantedE, Nat.reduceEqDiff, ↓reduceIte, ROp.run, same, binA, intA, strA, eqA, indexSA, byteA, unA, bounds3, Option.map_some, Option.map_none, dec_true, dec_false, Int.toNat_natCast, Int.natCast_nonneg, beq_self_eq_true, List.append_nil, beq_iff_eq, reduceCtorEq, List.getD_cons_zero, List.getD_cons_succ, loadA, rowA, pickA, bslA, storeA_eq, decide_true, flatA, List.length_cons, List.length_nil, Nat.reduceAdd, List.flatMap_cons, List.flatMap_nil, BEq.rfl, List.cons_append, List.nil_append, if_pos, if_neg, ordered, List.getElem?_cons_zero, List.getElem?_cons_succ, frzL, nidL, frz_func, frz_agg, frz_tup, frz_iface, fresh_func, fresh_agg, fresh_tup, fresh_iface, frz_ptr, frz_sl, fresh_sl, Cls.isFree, Cls.makes, callCls, chain, cond_true, tz, ty, e2, e10]; rfl) ?_
            refine ⟨rfl, ?_, ?_, ?_, ?_⟩
            all_goals simp only [upd_app, Nat.reduceEqDiff, ↓reduceIte, e0, e1, e2, e7]
      · rintro e tm hp ⟨rfl, e0, e1, e2, e7⟩
        have hr := H5_run (newV p f) t (by omega) hW
        rw [hrun] at hr
        have hmt := H5_match p t f (by omega) (by omega)
        refine vcE.ex (by simp (disch := omega) only [exC, exOps, exOp, evE, evsE, putE, wantedE, Nat.reduceEqDiff, ↓reduceIte, ROp.run, same, binA, intA, strA, eqA, indexSA, byteA, unA, bounds3, Option.map_some, Option.map_none, dec_true, dec_false, Int.toNat_natCast, Int.natCast_nonneg, beq_self_eq_true, List.append_nil, beq_iff_eq, reduceCtorEq, List.getD_cons_zero, List.getD_cons_succ, loadA, rowA, pickA, bslA, storeA_eq, decide_true, flatA, List.length_cons, List.length_nil, Nat.reduceAdd, List.flatMap_cons, List.flatMap_nil, BEq.rfl, List.cons_append, List.nil_append, if_pos, if_neg, ordered, List.getElem?_cons_zero, List.getElem?_cons_succ, frzL, nidL, frz_func, frz_agg, frz_tup, frz_iface, fresh_func, fresh_agg, fresh_tup, fresh_iface, frz_ptr, frz_sl, fresh_sl, Cls.isFree, Cls.makes, callCls, chain, cond_true, tz, ty, faddrA, allocA, over, List.take_succ_cons, List.take_zero, List.drop_succ_cons, List.drop_zero, List.drop_nil, List.set_cons_zero, List.set_cons_succ, Nat.reduceLeDiff, and_self, e0, e1, e2, e7, hr, hmt, hfz, hnid]; rfl) ?_
        exact ⟨_, rfl, rfl⟩
    · have hx : newV p f = none := by unfold newV; rw [if_neg hc]
      rw [hx]
      have hck := H5_check p
      refine vcE.ex (by simp (disch := first | assumption | omega) only [exC, exOps, exOp, evE, evsE, putE, wantedE, Nat.reduceEqDiff, ↓reduceIte, ROp.run, same, binA, intA, strA, eqA, indexSA, byteA, unA, bounds3, Option.map_some, Option.map_none, dec_true, dec_false, Int.toNat_natCast, Int.natCast_nonneg, beq_self_eq_true, List.append_nil, beq_iff_eq, reduceCtorEq, List.getD_cons_zero, List.getD_cons_succ, loadA, rowA, pickA, bslA, storeA_eq, decide_true, flatA, List.length_cons, List.length_nil, Nat.reduceAdd, List.flatMap_cons, List.flatMap_nil, BEq.rfl, List.cons_append, List.nil_append, if_pos, if_neg, ordered, List.getElem?_cons_zero, List.getElem?_cons_succ, frzL, nidL, frz_func, frz_agg, frz_tup, frz_iface, fresh_func, fresh_agg, fresh_tup, fresh_iface, frz_ptr, frz_sl, fresh_sl, Cls.isFree, Cls.makes, callCls, chain, cond_true, tz, ty, faddrA, allocA, over, List.take_succ_cons, List.take_zero, List.drop_succ_cons, List.drop_zero, List.drop_nil, List.set_cons_zero, List.set_cons_succ, Nat.reduceLeDiff, and_self, nV, isNilA, hck]; rfl) ?_
      exact ⟨_, rfl, rfl⟩
  · rw [Bool.eq_false_iff.2 hl] at hlt
    refine vcE.ex (by simp only [exC, exOps, exOp, evE, evsE, putE, wantedE, Nat.reduceEqDiff, ↓reduceIte, ROp.run, same, binA, intA, strA, eqA, indexSA, byteA, unA, bounds3, Option.map_some, Option.map_none, dec_true, dec_false, Int.toNat_natCast, Int.natCast_nonneg, beq_self_eq_true, List.append_nil, beq_iff_eq, reduceCtorEq, List.getD_cons_zero, List.getD_cons_succ, loadA, rowA, pickA, bslA, storeA_eq, decide_true, flatA, List.length_cons, List.length_nil, Nat.reduceAdd, List.flatMap_cons, List.flatMap_nil, BEq.rfl, List.cons_append, List.nil_append, if_pos, if_neg, ordered, List.getElem?_cons_zero, List.getElem?_cons_succ, frzL, nidL, frz_func, frz_agg, frz_tup, frz_iface, fresh_func, fresh_agg, fresh_tup, fresh_iface, frz_ptr, frz_sl, fresh_sl, Cls.isFree, Cls.makes, callCls, chain, cond_true, tz, ty, hlt]; rfl) ?_
    exact ⟨_, rfl, rfl⟩

end Go.Gi
