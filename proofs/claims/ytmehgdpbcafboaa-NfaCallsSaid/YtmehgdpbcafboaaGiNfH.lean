/- States: from two lists together a step leads to the union. -/
import Derived.Test.YtmehgdpbcafboaaGiNfG
import Derived.Test.YtmehgdpbcafboaaGiON
set_option linter.unusedVariables false
set_option linter.unusedSimpArgs false
namespace Go.Gi
open Go Go.Proofs

def H6 : Tab := H5.addO 53 (.cons (.S encI) .nil) fun p => if p.1.length ≤ 1000000 then some (ownR encI 3 p.1) else none
theorem H6_ok : TabOk Try.prog H6 := by
  refine TabOk.addO H5_ok ?_
  intro p r h
  split at h
  · rename_i hl
    cases h
    exact own_ok hmG encI comp53 (by omega) (by omega)
  · cases h
theorem H6_own (l : List Int) (h : l.length ≤ 1000000) : H6 53 [encI.S l] = some (.mk fun n => (ownV 1 l.length n, ownH 3 l.length (encI.cs l))) := by
  refine (Tab.addO_self _ _ (.cons (.S encI) .nil) _ (l, ())).trans ?_
  rw [if_pos h]
  rfl
theorem H6_ne {g : FuncId} {xs : List AV} (h : Nat.beq g 53 = false) : H6 g xs = H5 g xs := Tab.addO_ne _ _ _ _ h _

/-- How many places there are. -/
def cnt (N : Nat) (b : Nat → Bool) : Nat := ((List.range N).filter b).length
theorem cnt_lst (N : Nat) (b : Nat → Bool) : (lst N b).length = cnt N b := by rw [lst_eq, List.length_map]; rfl
theorem cnt_congr {N : Nat} {b b' : Nat → Bool} (h : ∀ i, i < N → b i = b' i) : cnt N b = cnt N b' := by
  unfold cnt
  congr 1
  exact List.filter_congr fun i hi => h i (List.mem_range.1 hi)
theorem cnt_zero (N : Nat) : cnt N (fun _ => false) = 0 := by simp [cnt]
theorem cnt_le (N : Nat) (b : Nat → Bool) : cnt N b ≤ N := by
  unfold cnt
  exact Nat.le_trans (List.length_filter_le _ _) (by simp)
theorem cnt_add {b : Nat → Bool} {j : Nat} (hb : b j = false) : ∀ {N : Nat}, j < N → cnt N (fun i => b i || decide (i = j)) = cnt N b + 1
  | 0, h => by omega
  | N + 1, h => by
    have step : ∀ (b : Nat → Bool), cnt (N + 1) b = cnt N b + (if b N then 1 else 0) := fun b => by
      unfold cnt
      rw [List.range_succ, List.filter_append, List.length_append]
      cases hN : b N <;> simp [hN]
    rw [step, step]
    by_cases hj : j = N
    · subst hj
      rw [cnt_congr (b' := b) (fun i hi => by simp; omega), hb]
      simp
    · rw [cnt_add hb (N := N) (by omega)]
      have : decide (N = j) = false := by simp; omega
      rw [this, Bool.or_false]
      omega

/-- In the row so far. -/
def inS (l : List Int) (j : Nat) : Bool := ofS l j
theorem inS_snoc (l : List Int) (n : Nat) (j : Nat) : inS (l ++ [(n : Int)]) j = (inS l j || decide (j = n)) := by
  simp only [inS, ofS]
  rw [Bool.eq_iff_iff]
  simp only [List.mem_append, List.mem_singleton, decide_eq_true_eq, Bool.or_eq_true]
  constructor
  · rintro (h | h)
    · exact .inl h
    · exact .inr (by omega)
  · rintro (h | h)
    · exact .inl h
    · exact .inr (by omega)

section
variable {x : Option (List UInt8 × Bool)} {N : Nat}
/-- The numbers of both, one by one, into the row. -/
theorem union_loop (hN : N ≤ 1000000) {each : List Int} (hlen : each.length ≤ 2000002) (hea : ∀ v ∈ each, ∃ i : Nat, i < N ∧ v = i) {tm : Env} {hp : HP} {ri ei : Nat} {ex : Bool} (hne : ri ≠ ei) (hrow : hp[ri]? = some (rowBlk N fun _ => false)) (heach : hp[ei]? = some (some (.row 3 (encI.cs each))))
    (e16 : tm 16 = .sl ri 0 N 1 N true) (e17 : tm 17 = .int .i64 0) (e18 : tm 18 = .sl ei 0 each.length 1 each.length ex) (e19 : tm 19 = .int .i64 0) (hint : Nat → Nat) {n : Nat} :
    vcE Try.prog hint H6 n (IC.block 0 (IC.loop b10_0)) tm hp fun e tm' hp' => e = .normal ∧ hp' = hp.set ri (rowBlk N (inS each)) ∧ tm' 17 = .int .i64 (cnt N (inS each)) ∧ ∀ i, i < 19 → i ≠ 17 → tm' i = tm i := by
  refine vcE.block (vcE.count (by intro l tm hp h; simp at h) (fun k tm' hp' => hp' = hp.set ri (rowBlk N (inS (each.take k))) ∧ tm' 17 = .int .i64 (cnt N (inS (each.take k))) ∧ tm' 19 = .int .i64 k ∧ ∀ i, i < 19 → i ≠ 17 → tm' i = tm i) each.length ⟨?_, ?_, e19, fun _ _ _ => rfl⟩ ?_ ?_)
  · have : rowBlk N (inS (each.take 0)) = rowBlk N fun _ => false := rowBlk_congr fun i _ => by simp [inS, ofS]
    rw [this]
    apply List.ext_getElem?
    intro j
    rw [List.getElem?_set]
    split
    · rename_i h; subst h
      rw [if_pos (get_lt hrow), hrow]
    · rfl
  · rw [e17, cnt_congr (b' := fun _ => false) (fun i _ => by simp [inS, ofS]), cnt_zero]
    rfl
  · rintro k tm' hp' hk ⟨rfl, h17, h19, hs⟩
    have h16 := (hs 16 (by omega) (by omega)).trans e16
    have h18 := (hs 18 (by omega) (by omega)).trans e18
    obtain ⟨v, hv⟩ : ∃ v, each[k]? = some v := ⟨_, List.getElem?_eq_getElem hk⟩
    obtain ⟨j, hj, rfl⟩ := hea v (List.mem_of_getElem? hv)
    have htk : each.take (k + 1) = each.take k ++ [(j : Int)] := by rw [List.take_add_one, hv]; rfl
    have g1 : (hp.set ri (rowBlk N (inS (each.take k))))[ei]? = some (some (.row 3 (encI.cs each))) := by rw [set_get_ne hne]; exact heach
    have g2 : (hp.set ri (rowBlk N (inS (each.take k))))[ri]? = some (rowBlk N (inS (each.take k))) := set_get hrow
    have g2' : (hp.set ri (rowBlk N (inS (each.take k))))[ri]? = some (some (.row 4 (encT.cs (rowB N (inS (each.take k)))))) := g2
    have hp1 := encI.pick1 (l := each) rfl hv (v := .int .i64 j) rfl rfl
    have hp2 := encT.pick1 (l := rowB N (inS (each.take k))) rfl (rowB_get hj) (v := .bool (inS (each.take k) j)) rfl rfl
    have hst := rowBlk_store g2 hj
    cases hb : inS (each.take k) j
    · rw [hb] at hp2
      have hc := cnt_add hb hj
      have hcl := cnt_le N (inS (each.take k))
      refine vcE.ex (by simp (disch := omega) only [exC, exOps, exOp, evE, evsE, putE, wantedE, Nat.reduceEqDiff, ↓reduceIte, ROp.run, same, binA, intA, strA, eqA, indexSA, byteA, unA, bounds3, Option.map_some, Option.map_none, dec_true, dec_false, Int.toNat_natCast, Int.natCast_nonneg, beq_self_eq_true, List.append_nil, beq_iff_eq, reduceCtorEq, List.getD_cons_zero, List.getD_cons_succ, loadA, rowA, pickA, bslA, storeA_eq, decide_true, flatA, List.length_cons, List.length_nil, Nat.reduceAdd, List.flatMap_cons, List.flatMap_nil, BEq.rfl, List.cons_append, List.nil_append, if_pos, if_neg, ordered, List.getElem?_cons_zero, List.getElem?_cons_succ, frzL, nidL, frz_func, frz_agg, frz_tup, frz_iface, fresh_func, fresh_agg, fresh_tup, fresh_iface, frz_ptr, frz_sl, fresh_sl, Cls.isFree, Cls.makes, callCls, chain, cond_true, tz, ty, faddrA, allocA, over, List.take_succ_cons, List.take_zero, List.drop_succ_cons, List.drop_zero, List.drop_nil, List.set_cons_zero, List.set_cons_succ, Nat.reduceLeDiff, and_self, h16, h17, h18, h19, iaddr_sl1, g1, g2', ↓hp1, ↓hp2, ↓hst]; rfl) ?_
      refine ⟨?_, ?_, ?_, fun i hi hi2 => ?_⟩
      · rw [List.set_set, htk]
        rw [show (fun i => inS (each.take k) i || decide (i = j)) = inS (each.take k ++ [(j : Int)]) from funext fun i => (inS_snoc _ _ _).symm]
      · simp only [upd_app, Nat.reduceEqDiff, ↓reduceIte]
        rw [htk, cnt_congr (fun i _ => inS_snoc (each.take k) j i), hc]
        rfl
      · simp only [upd_app, Nat.reduceEqDiff, ↓reduceIte]; rfl
      · simp only [upd_app, ← hs i hi hi2]
        repeat' (rw [if_neg (by omega)])
    · rw [hb] at hp2
      have heq : ∀ i, i < N → inS (each.take (k + 1)) i = inS (each.take k) i := fun i _ => by
        rw [htk, inS_snoc]
        by_cases hij : i = j
        · subst hij; rw [hb]; rfl
        · simp [hij]
      refine vcE.ex (by simp (disch := omega) only [exC, exOps, exOp, evE, evsE, putE, wantedE, Nat.reduceEqDiff, ↓reduceIte, ROp.run, same, binA, intA, strA, eqA, indexSA, byteA, unA, bounds3, Option.map_some, Option.map_none, dec_true, dec_false, Int.toNat_natCast, Int.natCast_nonneg, beq_self_eq_true, List.append_nil, beq_iff_eq, reduceCtorEq, List.getD_cons_zero, List.getD_cons_succ, loadA, rowA, pickA, bslA, storeA_eq, decide_true, flatA, List.length_cons, List.length_nil, Nat.reduceAdd, List.flatMap_cons, List.flatMap_nil, BEq.rfl, List.cons_append, List.nil_append, if_pos, if_neg, ordered, List.getElem?_cons_zero, List.getElem?_cons_succ, frzL, nidL, frz_func, frz_agg, frz_tup, frz_iface, fresh_func, fresh_agg, fresh_tup, fresh_iface, frz_ptr, frz_sl, fresh_sl, Cls.isFree, Cls.makes, callCls, chain, cond_true, tz, ty, faddrA, allocA, over, List.take_succ_cons, List.take_zero, List.drop_succ_cons, List.drop_zero, List.drop_nil, List.set_cons_zero, List.set_cons_succ, Nat.reduceLeDiff, and_self, h16, h17, h18, h19, iaddr_sl1, g1, g2', ↓hp1, ↓hp2]; rfl) ?_
      refine ⟨?_, ?_, ?_, fun i hi hi2 => ?_⟩
      · rw [rowBlk_congr heq]
      · simp only [upd_app, Nat.reduceEqDiff, ↓reduceIte, h17, cnt_congr heq]
      · simp only [upd_app, Nat.reduceEqDiff, ↓reduceIte]; rfl
      · simp only [upd_app, ← hs i hi hi2]
        repeat' (rw [if_neg (by omega)])
  · rintro tm' hp' ⟨rfl, h17, h19, hs⟩
    have h18 := (hs 18 (by omega) (by omega)).trans e18
    refine vcE.ex (by simp (disch := omega) only [exC, exOps, exOp, evE, evsE, putE, wantedE, Nat.reduceEqDiff, ↓reduceIte, ROp.run, same, binA, intA, strA, eqA, indexSA, byteA, unA, bounds3, Option.map_some, Option.map_none, dec_true, dec_false, Int.toNat_natCast, Int.natCast_nonneg, beq_self_eq_true, List.append_nil, beq_iff_eq, reduceCtorEq, List.getD_cons_zero, List.getD_cons_succ, loadA, rowA, pickA, bslA, storeA_eq, decide_true, flatA, List.length_cons, List.length_nil, Nat.reduceAdd, List.flatMap_cons, List.flatMap_nil, BEq.rfl, List.cons_append, List.nil_append, if_pos, if_neg, ordered, List.getElem?_cons_zero, List.getElem?_cons_succ, frzL, nidL, frz_func, frz_agg, frz_tup, frz_iface, fresh_func, fresh_agg, fresh_tup, fresh_iface, frz_ptr, frz_sl, fresh_sl, Cls.isFree, Cls.makes, callCls, chain, cond_true, tz, ty, faddrA, allocA, over, List.take_succ_cons, List.take_zero, List.drop_succ_cons, List.drop_zero, List.drop_nil, List.set_cons_zero, List.set_cons_succ, Nat.reduceLeDiff, and_self, h18, h19]; rfl) ?_
    rw [List.take_length] at h17 ⊢
    refine ⟨rfl, rfl, ?_, fun i hi hi2 => ?_⟩
    · simp only [upd_app, Nat.reduceEqDiff, ↓reduceIte, h17]
    · simp only [upd_app, ← hs i hi hi2]
      repeat' (rw [if_neg (by omega)])

/-- Each of the numbers is in the row. -/
theorem both_loop (hN : N ≤ 1000000) {both : List Int} (hlen : both.length ≤ 2000002) {b : Nat → Bool} (hbo : ∀ v ∈ both, ∃ i : Nat, i < N ∧ b i = true ∧ v = i) {tm : Env} {hp : HP} {ri : Nat} (hrow : hp[ri]? = some (rowBlk N b))
    (e16 : tm 16 = .sl ri 0 N 1 N true) (e15 : tm 15 = encI.S both) (e20 : tm 20 = .int .i64 0) (hint : Nat → Nat) {n : Nat} :
    vcE Try.prog hint H6 n (IC.block 2 (IC.loop b10_1)) tm hp fun e tm' hp' => e = .normal ∧ hp' = hp ∧ ∀ i, i < 20 → tm' i = tm i := by
  refine vcE.block (vcE.count (by intro l tm hp h; simp at h) (fun k tm' hp' => hp' = hp ∧ tm' 20 = .int .i64 k ∧ ∀ i, i < 20 → tm' i = tm i) both.length ⟨rfl, e20, fun _ _ => rfl⟩ ?_ ?_)
  · rintro k tm' hp' hk ⟨rfl, h20, hs⟩
    have h16 := (hs 16 (by omega)).trans e16
    have h15 := (hs 15 (by omega)).trans e15
    obtain ⟨v, hv⟩ : ∃ v, both[k]? = some v := ⟨_, List.getElem?_eq_getElem hk⟩
    obtain ⟨j, hj, hbj, rfl⟩ := hbo v (List.mem_of_getElem? hv)
    have hia := encI_iaddr hk (k := .i64)
    have hp1 := encI.pick1 (l := both) rfl hv (v := .int .i64 j) rfl rfl
    have hp2 := encT.pick1 (l := rowB N b) rfl (rowB_get hj) (v := .bool (b j)) rfl rfl
    rw [hbj] at hp2
    have g2' : hp'[ri]? = some (some (.row 4 (encT.cs (rowB N b)))) := hrow
    refine vcE.ex (by simp (disch := omega) only [exC, exOps, exOp, evE, evsE, putE, wantedE, Nat.reduceEqDiff, ↓reduceIte, ROp.run, same, binA, intA, strA, eqA, indexSA, byteA, unA, bounds3, Option.map_some, Option.map_none, dec_true, dec_false, Int.toNat_natCast, Int.natCast_nonneg, beq_self_eq_true, List.append_nil, beq_iff_eq, reduceCtorEq, List.getD_cons_zero, List.getD_cons_succ, loadA, rowA, pickA, bslA, storeA_eq, decide_true, flatA, List.length_cons, List.length_nil, Nat.reduceAdd, List.flatMap_cons, List.flatMap_nil, BEq.rfl, List.cons_append, List.nil_append, if_pos, if_neg, ordered, List.getElem?_cons_zero, List.getElem?_cons_succ, frzL, nidL, frz_func, frz_agg, frz_tup, frz_iface, fresh_func, fresh_agg, fresh_tup, fresh_iface, frz_ptr, frz_sl, fresh_sl, Cls.isFree, Cls.makes, callCls, chain, cond_true, tz, ty, faddrA, allocA, over, List.take_succ_cons, List.take_zero, List.drop_succ_cons, List.drop_zero, List.drop_nil, List.set_cons_zero, List.set_cons_succ, Nat.reduceLeDiff, and_self, h15, h16, h20, hia, iaddr_sl1, g2', ↓hp1, ↓hp2, Enc.S_len]; rfl) ?_
    refine ⟨rfl, ?_, fun i hi => ?_⟩
    · simp only [upd_app, Nat.reduceEqDiff, ↓reduceIte]; rfl
    · simp only [upd_app, ← hs i hi]
      repeat' (rw [if_neg (by omega)])
  · rintro tm' hp' ⟨rfl, h20, hs⟩
    have h15 := (hs 15 (by omega)).trans e15
    refine vcE.ex (by simp (disch := omega) only [exC, exOps, exOp, evE, evsE, putE, wantedE, Nat.reduceEqDiff, ↓reduceIte, ROp.run, same, binA, intA, strA, eqA, indexSA, byteA, unA, bounds3, Option.map_some, Option.map_none, dec_true, dec_false, Int.toNat_natCast, Int.natCast_nonneg, beq_self_eq_true, List.append_nil, beq_iff_eq, reduceCtorEq, List.getD_cons_zero, List.getD_cons_succ, loadA, rowA, pickA, bslA, storeA_eq, decide_true, flatA, List.length_cons, List.length_nil, Nat.reduceAdd, List.flatMap_cons, List.flatMap_nil, BEq.rfl, List.cons_append, List.nil_append, if_pos, if_neg, ordered, List.getElem?_cons_zero, List.getElem?_cons_succ, frzL, nidL, frz_func, frz_agg, frz_tup, frz_iface, fresh_func, fresh_agg, fresh_tup, fresh_iface, frz_ptr, frz_sl, fresh_sl, Cls.isFree, Cls.makes, callCls, chain, cond_true, tz, ty, faddrA, allocA, over, List.take_succ_cons, List.take_zero, List.drop_succ_cons, List.drop_zero, List.drop_nil, List.set_cons_zero, List.set_cons_succ, Nat.reduceLeDiff, and_self, h15, h20, Enc.S_len]; rfl) ?_
    refine ⟨rfl, rfl, fun i hi => ?_⟩
    simp only [upd_app, ← hs i hi]
    repeat' (rw [if_neg (by omega)])
end


theorem own_eval (E : Enc Int) (hE : E.sz = 1) (l : List Int) (n : Nat) : ownV 1 l.length n = ownV E.sz l.length n := by rw [hE]
theorem lawJoins (p : List UInt8) (f : Bool) (l m : List Int) (c : UInt8) : PC Try.prog 10 [.str p, .bool f, encI.S l, encI.S m, .int .u8 c.toNat] (.bool true) := by
  refine pc_e hmG H6_ok comp10 (by decide) (by simp) (nidL_ok (by simp only [nidL, Enc.S_nid, nid_int, nid_str, nid_bool, Bool.and_self])) ?_
  have hlives : H6 50 [] = some (.rd true (.bool true)) := (H6_ne rfl).trans H5_lives
  refine vcE.step (by simp only [exC, exOps, exOp, evE, evsE, putE, wantedE, Nat.reduceEqDiff, ↓reduceIte, ROp.run, same, binA, intA, strA, eqA, indexSA, byteA, unA, bounds3, Option.map_some, Option.map_none, dec_true, dec_false, Int.toNat_natCast, Int.natCast_nonneg, beq_self_eq_true, List.append_nil, beq_iff_eq, reduceCtorEq, List.getD_cons_zero, List.getD_cons_succ, loadA, rowA, pickA, bslA, storeA_eq, decide_true, flatA, List.length_cons, List.length_nil, Nat.reduceAdd, List.flatMap_cons, List.flatMap_nil, BEq.rfl, List.cons_append, List.nil_append, if_pos, if_neg, ordered, List.getElem?_cons_zero, List.getElem?_cons_succ, frzL, nidL, frz_func, frz_agg, frz_tup, frz_iface, fresh_func, fresh_agg, fresh_tup, fresh_iface, frz_ptr, frz_sl, fresh_sl, Cls.isFree, Cls.makes, callCls, chain, cond_true, tz, ty]; rfl) (vcE.step (by simp only [exC, exOps, exOp, evE, evsE, putE, wantedE, Nat.reduceEqDiff, ↓reduceIte, ROp.run, same, binA, intA, strA, eqA, indexSA, byteA, unA, bounds3, Option.map_some, Option.map_none, dec_true, dec_false, Int.toNat_natCast, Int.natCast_nonneg, beq_self_eq_true, List.append_nil, beq_iff_eq, reduceCtorEq, List.getD_cons_zero, List.getD_cons_succ, loadA, rowA, pickA, bslA, storeA_eq, decide_true, flatA, List.length_cons, List.length_nil, Nat.reduceAdd, List.flatMap_cons, List.flatMap_nil, BEq.rfl, List.cons_append, List.nil_append, if_pos, if_neg, ordered, List.getElem?_cons_zero, List.getElem?_cons_succ, frzL, nidL, frz_func, frz_agg, frz_tup, frz_iface, fresh_func, fresh_agg, fresh_tup, fresh_iface, frz_ptr, frz_sl, fresh_sl, Cls.isFree, Cls.makes, callCls, chain, cond_true, tz, ty, hlives]; rfl) ?_)
  by_cases h1 : p.length ≤ 300
  · by_cases h2 : l.length ≤ 200
    · by_cases h3 : m.length ≤ 200
      · have hnew : H6 51 [.str p, .bool f] = some (.rd true (.tup [nV (newV p f), .int .i64 (checkG p)])) := (H6_ne rfl).trans (H5_new p f h1)
        have hW := newV_ok (f := f) h1
        have hfz := nV_frz (newV p f)
        have hnid := nV_nid (newV p f)
        refine vcE.step (by simp (disch := omega) only [exC, exOps, exOp, evE, evsE, putE, wantedE, Nat.reduceEqDiff, ↓reduceIte, ROp.run, same, binA, intA, strA, eqA, indexSA, byteA, unA, bounds3, Option.map_some, Option.map_none, dec_true, dec_false, Int.toNat_natCast, Int.natCast_nonneg, beq_self_eq_true, List.append_nil, beq_iff_eq, reduceCtorEq, List.getD_cons_zero, List.getD_cons_succ, loadA, rowA, pickA, bslA, storeA_eq, decide_true, flatA, List.length_cons, List.length_nil, Nat.reduceAdd, List.flatMap_cons, List.flatMap_nil, BEq.rfl, List.cons_append, List.nil_append, if_pos, if_neg, ordered, List.getElem?_cons_zero, List.getElem?_cons_succ, frzL, nidL, frz_func, frz_agg, frz_tup, frz_iface, fresh_func, fresh_agg, fresh_tup, fresh_iface, frz_ptr, frz_sl, fresh_sl, Cls.isFree, Cls.makes, callCls, chain, cond_true, tz, ty, faddrA, allocA, over, List.take_succ_cons, List.take_zero, List.drop_succ_cons, List.drop_zero, List.drop_nil, List.set_cons_zero, List.set_cons_succ, Nat.reduceLeDiff, and_self, Enc.S_len]; rfl) (vcE.step (by simp (disch := omega) only [exC, exOps, exOp, evE, evsE, putE, wantedE, Nat.reduceEqDiff, ↓reduceIte, ROp.run, same, binA, intA, strA, eqA, indexSA, byteA, unA, bounds3, Option.map_some, Option.map_none, dec_true, dec_false, Int.toNat_natCast, Int.natCast_nonneg, beq_self_eq_true, List.append_nil, beq_iff_eq, reduceCtorEq, List.getD_cons_zero, List.getD_cons_succ, loadA, rowA, pickA, bslA, storeA_eq, decide_true, flatA, List.length_cons, List.length_nil, Nat.reduceAdd, List.flatMap_cons, List.flatMap_nil, BEq.rfl, List.cons_append, List.nil_append, if_pos, if_neg, ordered, List.getElem?_cons_zero, List.getElem?_cons_succ, frzL, nidL, frz_func, frz_agg, frz_tup, frz_iface, fresh_func, fresh_agg, fresh_tup, fresh_iface, frz_ptr, frz_sl, fresh_sl, Cls.isFree, Cls.makes, callCls, chain, cond_true, tz, ty, hnew]; rfl) ?_)
        by_cases hc : checkG p = 0
        · generalize hx : newV p f = x at *
          generalize hNN : nN x = N at *
          have hN : N ≤ 1000000 := by rw [← hNN]; exact hW.2
          have kst : ∀ (l : List Int), l.length ≤ 1000000 → H6 52 [nV x, encI.S l, .int .u8 c.toNat] = some (.rd true (encI.S (lst N (stepV x (ofS l) c)))) := fun l hl => by rw [← hNN]; exact (H6_ne rfl).trans (H5_step x l c hl hW)
          have kac : ∀ (l : List Int), l.length ≤ 1000000 → H6 55 [nV x, encI.S l] = some (.rd true (.bool (accV x (ofS l)))) := fun l hl => (H6_ne rfl).trans (H5_acc x l hl hW)
          have ksn : H6 54 [nV x] = some (.rd true (.int .i64 N)) := by rw [← hNN]; exact (H6_ne rfl).trans (H5_states x hW.1.small)
          have kl := kst l (by omega)
          have km := kst m (by omega)
          have kom := H6_own m (by omega)
          obtain ⟨v1, hp1, a1, o1, _, _, _⟩ := ownV_app encI [] m (e := 3) (m := l) (bytes := 8) (x := encI.S l) (encI.S_src _ l) (by omega) (by omega)
          have a1' : appA 3 1 8 (ownH 3 m.length (encI.cs m)) (ownV 1 m.length 0) (encI.S l) = some (v1, hp1) := a1
          have kml := kst (m ++ l) (by simp; omega)
          have o1f := o1.frz
          refine vcE.step (by simp (disch := first | assumption | omega) only [exC, exOps, exOp, evE, evsE, putE, wantedE, Nat.reduceEqDiff, ↓reduceIte, ROp.run, same, binA, intA, strA, eqA, indexSA, byteA, unA, bounds3, Option.map_some, Option.map_none, dec_true, dec_false, Int.toNat_natCast, Int.natCast_nonneg, beq_self_eq_true, List.append_nil, beq_iff_eq, reduceCtorEq, List.getD_cons_zero, List.getD_cons_succ, loadA, rowA, pickA, bslA, storeA_eq, decide_true, flatA, List.length_cons, List.length_nil, Nat.reduceAdd, List.flatMap_cons, List.flatMap_nil, BEq.rfl, List.cons_append, List.nil_append, if_pos, if_neg, ordered, List.getElem?_cons_zero, List.getElem?_cons_succ, frzL, nidL, frz_func, frz_agg, frz_tup, frz_iface, fresh_func, fresh_agg, fresh_tup, fresh_iface, frz_ptr, frz_sl, fresh_sl, Cls.isFree, Cls.makes, callCls, chain, cond_true, tz, ty]; rfl) (vcE.step (by simp (disch := omega) only [exC, exOps, exOp, evE, evsE, putE, wantedE, Nat.reduceEqDiff, ↓reduceIte, ROp.run, same, binA, intA, strA, eqA, indexSA, byteA, unA, bounds3, Option.map_some, Option.map_none, dec_true, dec_false, Int.toNat_natCast, Int.natCast_nonneg, beq_self_eq_true, List.append_nil, beq_iff_eq, reduceCtorEq, List.getD_cons_zero, List.getD_cons_succ, loadA, rowA, pickA, bslA, storeA_eq, decide_true, flatA, List.length_cons, List.length_nil, Nat.reduceAdd, List.flatMap_cons, List.flatMap_nil, BEq.rfl, List.cons_append, List.nil_append, if_pos, if_neg, ordered, List.getElem?_cons_zero, List.getElem?_cons_succ, frzL, nidL, frz_func, frz_agg, frz_tup, frz_iface, fresh_func, fresh_agg, fresh_tup, fresh_iface, frz_ptr, frz_sl, fresh_sl, Cls.isFree, Cls.makes, callCls, chain, cond_true, tz, ty, faddrA, allocA, over, List.take_succ_cons, List.take_zero, List.drop_succ_cons, List.drop_zero, List.drop_nil, List.set_cons_zero, List.set_cons_succ, Nat.reduceLeDiff, and_self, kl, km, hfz, hnid, Enc.S_nid]; rfl) ?_)
          refine vcE.step (by simp (disch := omega) only [exC, exOps, exOp, evE, evsE, putE, wantedE, Nat.reduceEqDiff, ↓reduceIte, ROp.run, same, binA, intA, strA, eqA, indexSA, byteA, unA, bounds3, Option.map_some, Option.map_none, dec_true, dec_false, Int.toNat_natCast, Int.natCast_nonneg, beq_self_eq_true, List.append_nil, beq_iff_eq, reduceCtorEq, List.getD_cons_zero, List.getD_cons_succ, loadA, rowA, pickA, bslA, storeA_eq, decide_true, flatA, List.length_cons, List.length_nil, Nat.reduceAdd, List.flatMap_cons, List.flatMap_nil, BEq.rfl, List.cons_append, List.nil_append, if_pos, if_neg, ordered, List.getElem?_cons_zero, List.getElem?_cons_succ, frzL, nidL, frz_func, frz_agg, frz_tup, frz_iface, fresh_func, fresh_agg, fresh_tup, fresh_iface, frz_ptr, frz_sl, fresh_sl, Cls.isFree, Cls.makes, callCls, chain, cond_true, tz, ty, faddrA, allocA, over, List.take_succ_cons, List.take_zero, List.drop_succ_cons, List.drop_zero, List.drop_nil, List.set_cons_zero, List.set_cons_succ, Nat.reduceLeDiff, and_self, kom, hfz, hnid, Enc.S_nid, ↓a1', o1f, kml]; rfl) ?_
          generalize hA : lst N (stepV x (ofS l) c) = la at *
          generalize hB : lst N (stepV x (ofS m) c) = lb at *
          have hla : la.length ≤ N := by rw [← hA]; exact lst_len _ _
          have hlb : lb.length ≤ N := by rw [← hB]; exact lst_len _ _
          refine vcE.step (by simp (disch := omega) only [exC, exOps, exOp, evE, evsE, putE, wantedE, Nat.reduceEqDiff, ↓reduceIte, ROp.run, same, binA, intA, strA, eqA, indexSA, byteA, unA, bounds3, Option.map_some, Option.map_none, dec_true, dec_false, Int.toNat_natCast, Int.natCast_nonneg, beq_self_eq_true, List.append_nil, beq_iff_eq, reduceCtorEq, List.getD_cons_zero, List.getD_cons_succ, loadA, rowA, pickA, bslA, storeA_eq, decide_true, flatA, List.length_cons, List.length_nil, Nat.reduceAdd, List.flatMap_cons, List.flatMap_nil, BEq.rfl, List.cons_append, List.nil_append, if_pos, if_neg, ordered, List.getElem?_cons_zero, List.getElem?_cons_succ, frzL, nidL, frz_func, frz_agg, frz_tup, frz_iface, fresh_func, fresh_agg, fresh_tup, fresh_iface, frz_ptr, frz_sl, fresh_sl, Cls.isFree, Cls.makes, callCls, chain, cond_true, tz, ty, faddrA, allocA, over, List.take_succ_cons, List.take_zero, List.drop_succ_cons, List.drop_zero, List.drop_nil, List.set_cons_zero, List.set_cons_succ, Nat.reduceLeDiff, and_self, ksn, hfz, hnid, make_row]; rfl) (vcE.step (by simp (disch := omega) only [exC, exOps, exOp, evE, evsE, putE, wantedE, Nat.reduceEqDiff, ↓reduceIte, ROp.run, same, binA, intA, strA, eqA, indexSA, byteA, unA, bounds3, Option.map_some, Option.map_none, dec_true, dec_false, Int.toNat_natCast, Int.natCast_nonneg, beq_self_eq_true, List.append_nil, beq_iff_eq, reduceCtorEq, List.getD_cons_zero, List.getD_cons_succ, loadA, rowA, pickA, bslA, storeA_eq, decide_true, flatA, List.length_cons, List.length_nil, Nat.reduceAdd, List.flatMap_cons, List.flatMap_nil, BEq.rfl, List.cons_append, List.nil_append, if_pos, if_neg, ordered, List.getElem?_cons_zero, List.getElem?_cons_succ, frzL, nidL, frz_func, frz_agg, frz_tup, frz_iface, fresh_func, fresh_agg, fresh_tup, fresh_iface, frz_ptr, frz_sl, fresh_sl, Cls.isFree, Cls.makes, callCls, chain, cond_true, tz, ty]; rfl) ?_)
          have koa := H6_own la (by omega)
          obtain ⟨v2, hp2, a2, o2, keep2, _, ei, ex, rfl, hei⟩ := ownV_app encI (hp1 ++ [rowBlk N fun _ => false]) la (e := 3) (m := lb) (bytes := 8) (x := encI.S lb) (encI.S_src _ lb) (by omega) (by omega)
          have a2' : appA 3 1 8 ((hp1 ++ [rowBlk N fun _ => false]) ++ ownH 3 la.length (encI.cs la)) (ownV 1 la.length (hp1 ++ [rowBlk N fun _ => false]).length) (encI.S lb) = some (.sl ei 0 (la ++ lb).length encI.sz (la ++ lb).length ex, hp2) := a2
          refine vcE.step (by simp (disch := omega) only [exC, exOps, exOp, evE, evsE, putE, wantedE, Nat.reduceEqDiff, ↓reduceIte, ROp.run, same, binA, intA, strA, eqA, indexSA, byteA, unA, bounds3, Option.map_some, Option.map_none, dec_true, dec_false, Int.toNat_natCast, Int.natCast_nonneg, beq_self_eq_true, List.append_nil, beq_iff_eq, reduceCtorEq, List.getD_cons_zero, List.getD_cons_succ, loadA, rowA, pickA, bslA, storeA_eq, decide_true, flatA, List.length_cons, List.length_nil, Nat.reduceAdd, List.flatMap_cons, List.flatMap_nil, BEq.rfl, List.cons_append, List.nil_append, if_pos, if_neg, ordered, List.getElem?_cons_zero, List.getElem?_cons_succ, frzL, nidL, frz_func, frz_agg, frz_tup, frz_iface, fresh_func, fresh_agg, fresh_tup, fresh_iface, frz_ptr, frz_sl, fresh_sl, Cls.isFree, Cls.makes, callCls, chain, cond_true, tz, ty, faddrA, allocA, over, List.take_succ_cons, List.take_zero, List.drop_succ_cons, List.drop_zero, List.drop_nil, List.set_cons_zero, List.set_cons_succ, Nat.reduceLeDiff, and_self, koa, Enc.S_nid, ↓a2']; rfl) ?_
          have hri : hp1.length < (hp1 ++ [rowBlk N fun _ => false]).length := by simp
          have hrow : hp2[hp1.length]? = some (rowBlk N fun _ => false) := by rw [keep2 _ hri]; simp
          have heach : hp2[ei]? = some (some (.row 3 (encI.cs (la ++ lb)))) := by
            obtain ⟨id, ex', h, hg⟩ := o2
            cases h
            exact hg
          have hne : hp1.length ≠ ei := by simp at hei; omega
          have hmem : ∀ v ∈ la ++ lb, ∃ i : Nat, i < N ∧ v = i := by
            intro v hv
            rcases List.mem_append.1 hv with hv | hv
            · rw [← hA] at hv; obtain ⟨i, h1, _, h2⟩ := lst_mem.1 hv; exact ⟨i, h1, h2⟩
            · rw [← hB] at hv; obtain ⟨i, h1, _, h2⟩ := lst_mem.1 hv; exact ⟨i, h1, h2⟩
          have hu : ∀ i, i < N → inS (la ++ lb) i = stepV x (ofS (m ++ l)) c i := by
            intro i hi
            have e1 : inS (la ++ lb) i = (ofS la i || ofS lb i) := by simp [inS, ofS]
            have e2 : ofS (m ++ l) = fun i => ofS m i || ofS l i := funext fun i => by simp [ofS]
            rw [e1, ← hA, ← hB, ofS_lst hi, ofS_lst hi, e2]
            cases x with
            | none => rfl
            | some a =>
              obtain ⟨q, g⟩ := a
              simp only [stepV, stepS_or]
              rw [Bool.or_comm]
          have hcntE : cnt N (inS (la ++ lb)) = (lst N (stepV x (ofS (m ++ l)) c)).length := by rw [cnt_lst, cnt_congr hu]
          have hboth : ∀ v ∈ lst N (stepV x (ofS (m ++ l)) c), ∃ i : Nat, i < N ∧ inS (la ++ lb) i = true ∧ v = i := fun v hv => by
            obtain ⟨i, h1, h2, h3⟩ := lst_mem.1 hv
            exact ⟨i, h1, by rw [hu i h1]; exact h2, h3⟩
          have hbl : (lst N (stepV x (ofS (m ++ l)) c)).length ≤ N := lst_len _ _
          generalize hBoth : lst N (stepV x (ofS (m ++ l)) c) = both at *
          refine vcE.seq (vcE.step (by simp (disch := omega) only [exC, exOps, exOp, evE, evsE, putE, wantedE, Nat.reduceEqDiff, ↓reduceIte, ROp.run, same, binA, intA, strA, eqA, indexSA, byteA, unA, bounds3, Option.map_some, Option.map_none, dec_true, dec_false, Int.toNat_natCast, Int.natCast_nonneg, beq_self_eq_true, List.append_nil, beq_iff_eq, reduceCtorEq, List.getD_cons_zero, List.getD_cons_succ, loadA, rowA, pickA, bslA, storeA_eq, decide_true, flatA, List.length_cons, List.length_nil, Nat.reduceAdd, List.flatMap_cons, List.flatMap_nil, BEq.rfl, List.cons_append, List.nil_append, if_pos, if_neg, ordered, List.getElem?_cons_zero, List.getElem?_cons_succ, frzL, nidL, frz_func, frz_agg, frz_tup, frz_iface, fresh_func, fresh_agg, fresh_tup, fresh_iface, frz_ptr, frz_sl, fresh_sl, Cls.isFree, Cls.makes, callCls, chain, cond_true, tz, ty]; rfl) ((union_loop hN (each := la ++ lb) (by simp; omega) hmem (ex := ex) hne hrow heach ?_ ?_ ?_ ?_ _).mono ?_))
          · simp only [upd_app, Nat.reduceEqDiff, ↓reduceIte]
          · simp only [upd_app, Nat.reduceEqDiff, ↓reduceIte]
          · simp only [upd_app, Nat.reduceEqDiff, ↓reduceIte]; rfl
          · simp only [upd_app, Nat.reduceEqDiff, ↓reduceIte]
          · rintro e tm' hp' ⟨rfl, rfl, g17, gs⟩
            have g2 := gs 2 (by omega) (by omega)
            have g3 := gs 3 (by omega) (by omega)
            have g11 := gs 11 (by omega) (by omega)
            have g15 := gs 15 (by omega) (by omega)
            have g16 := gs 16 (by omega) (by omega)
            simp only [upd_app, Nat.reduceEqDiff, ↓reduceIte, start_app, List.getD_cons_zero, List.getD_cons_succ] at g2 g3 g11 g15 g16
            refine vcE.seq (vcE.seq (vcE.ex (by simp (disch := omega) only [exC, exOps, exOp, evE, evsE, putE, wantedE, Nat.reduceEqDiff, ↓reduceIte, ROp.run, same, binA, intA, strA, eqA, indexSA, byteA, unA, bounds3, Option.map_some, Option.map_none, dec_true, dec_false, Int.toNat_natCast, Int.natCast_nonneg, beq_self_eq_true, List.append_nil, beq_iff_eq, reduceCtorEq, List.getD_cons_zero, List.getD_cons_succ, loadA, rowA, pickA, bslA, storeA_eq, decide_true, flatA, List.length_cons, List.length_nil, Nat.reduceAdd, List.flatMap_cons, List.flatMap_nil, BEq.rfl, List.cons_append, List.nil_append, if_pos, if_neg, ordered, List.getElem?_cons_zero, List.getElem?_cons_succ, frzL, nidL, frz_func, frz_agg, frz_tup, frz_iface, fresh_func, fresh_agg, fresh_tup, fresh_iface, frz_ptr, frz_sl, fresh_sl, Cls.isFree, Cls.makes, callCls, chain, cond_true, tz, ty]; rfl) ((both_loop hN (both := both) (by omega) hboth (set_get hrow) ?_ ?_ ?_ _).mono ?_)))
            · simp only [upd_app, Nat.reduceEqDiff, ↓reduceIte, g16]
            · simp only [upd_app, Nat.reduceEqDiff, ↓reduceIte, g15]
            · simp only [upd_app, Nat.reduceEqDiff, ↓reduceIte]
            · rintro e tm2 hp3 ⟨rfl, rfl, gs2⟩
              have f2 := gs2 2 (by omega)
              have f3 := gs2 3 (by omega)
              have f11 := gs2 11 (by omega)
              have f15 := gs2 15 (by omega)
              have f17 := gs2 17 (by omega)
              simp only [upd_app, Nat.reduceEqDiff, ↓reduceIte, g2, g3, g11, g15, g17] at f2 f3 f11 f15 f17
              rw [hcntE] at f17
              have kol := H6_own l (by omega)
              generalize hH : hp2.set hp1.length (rowBlk N (inS (la ++ lb))) = H
              obtain ⟨v3, hp3, a3, o3, _, _, _⟩ := ownV_app encI H l (e := 3) (m := m) (bytes := 8) (x := encI.S m) (encI.S_src _ m) (by omega) (by omega)
              have a3' : appA 3 1 8 (H ++ ownH 3 l.length (encI.cs l)) (ownV 1 l.length H.length) (encI.S m) = some (v3, hp3) := a3
              have o3f := o3.frz
              have kal := kac l (by omega)
              have kam := kac m (by omega)
              have kalm := kac (l ++ m) (by simp; omega)
              have hor : accV x (ofS (l ++ m)) = (accV x (ofS l) || accV x (ofS m)) := by
                cases x with
                | none => rfl
                | some a => simp [accV, ofS]
              rw [hor] at kalm
              cases hal : accV x (ofS l)
              · rw [hal] at kal kalm
                refine vcE.ex (by simp (disch := omega) only [exC, exOps, exOp, evE, evsE, putE, wantedE, Nat.reduceEqDiff, ↓reduceIte, ROp.run, same, binA, intA, strA, eqA, indexSA, byteA, unA, bounds3, Option.map_some, Option.map_none, dec_true, dec_false, Int.toNat_natCast, Int.natCast_nonneg, beq_self_eq_true, List.append_nil, beq_iff_eq, reduceCtorEq, List.getD_cons_zero, List.getD_cons_succ, loadA, rowA, pickA, bslA, storeA_eq, decide_true, flatA, List.length_cons, List.length_nil, Nat.reduceAdd, List.flatMap_cons, List.flatMap_nil, BEq.rfl, List.cons_append, List.nil_append, if_pos, if_neg, ordered, List.getElem?_cons_zero, List.getElem?_cons_succ, frzL, nidL, frz_func, frz_agg, frz_tup, frz_iface, fresh_func, fresh_agg, fresh_tup, fresh_iface, frz_ptr, frz_sl, fresh_sl, Cls.isFree, Cls.makes, callCls, chain, cond_true, tz, ty, faddrA, allocA, over, List.take_succ_cons, List.take_zero, List.drop_succ_cons, List.drop_zero, List.drop_nil, List.set_cons_zero, List.set_cons_succ, Nat.reduceLeDiff, and_self, f2, f3, f11, f15, f17, kol, hfz, hnid, Enc.S_nid, Enc.S_len, ↓a3', o3f, kal, kam, kalm]; rfl) ?_
                exact ⟨_, rfl, rfl⟩
              · rw [hal] at kal kalm
                refine vcE.ex (by simp (disch := omega) only [exC, exOps, exOp, evE, evsE, putE, wantedE, Nat.reduceEqDiff, ↓reduceIte, ROp.run, same, binA, intA, strA, eqA, indexSA, byteA, unA, bounds3, Option.map_some, Option.map_none, dec_true, dec_false, Int.toNat_natCast, Int.natCast_nonneg, beq_self_eq_true, List.append_nil, beq_iff_eq, reduceCtorEq, List.getD_cons_zero, List.getD_cons_succ, loadA, rowA, pickA, bslA, storeA_eq, decide_true, flatA, List.length_cons, List.length_nil, Nat.reduceAdd, List.flatMap_cons, List.flatMap_nil, BEq.rfl, List.cons_append, List.nil_append, if_pos, if_neg, ordered, List.getElem?_cons_zero, List.getElem?_cons_succ, frzL, nidL, frz_func, frz_agg, frz_tup, frz_iface, fresh_func, fresh_agg, fresh_tup, fresh_iface, frz_ptr, frz_sl, fresh_sl, Cls.isFree, Cls.makes, callCls, chain, cond_true, tz, ty, faddrA, allocA, over, List.take_succ_cons, List.take_zero, List.drop_succ_cons, List.drop_zero, List.drop_nil, List.set_cons_zero, List.set_cons_succ, Nat.reduceLeDiff, and_self, f2, f3, f11, f15, f17, kol, hfz, hnid, Enc.S_nid, Enc.S_len, ↓a3', o3f, kal, kam, kalm]; rfl) ?_
                exact ⟨_, rfl, rfl⟩
        · refine vcE.ex (by simp (disch := first | assumption | omega) only [exC, exOps, exOp, evE, evsE, putE, wantedE, Nat.reduceEqDiff, ↓reduceIte, ROp.run, same, binA, intA, strA, eqA, indexSA, byteA, unA, bounds3, Option.map_some, Option.map_none, dec_true, dec_false, Int.toNat_natCast, Int.natCast_nonneg, beq_self_eq_true, List.append_nil, beq_iff_eq, reduceCtorEq, List.getD_cons_zero, List.getD_cons_succ, loadA, rowA, pickA, bslA, storeA_eq, decide_true, flatA, List.length_cons, List.length_nil, Nat.reduceAdd, List.flatMap_cons, List.flatMap_nil, BEq.rfl, List.cons_append, List.nil_append, if_pos, if_neg, ordered, List.getElem?_cons_zero, List.getElem?_cons_succ, frzL, nidL, frz_func, frz_agg, frz_tup, frz_iface, fresh_func, fresh_agg, fresh_tup, fresh_iface, frz_ptr, frz_sl, fresh_sl, Cls.isFree, Cls.makes, callCls, chain, cond_true, tz, ty, faddrA, allocA, over, List.take_succ_cons, List.take_zero, List.drop_succ_cons, List.drop_zero, List.drop_nil, List.set_cons_zero, List.set_cons_succ, Nat.reduceLeDiff, and_self]; rfl) ?_
          exact ⟨_, rfl, rfl⟩
      · refine vcE.ex (by simp (disch := omega) only [exC, exOps, exOp, evE, evsE, putE, wantedE, Nat.reduceEqDiff, ↓reduceIte, ROp.run, same, binA, intA, strA, eqA, indexSA, byteA, unA, bounds3, Option.map_some, Option.map_none, dec_true, dec_false, Int.toNat_natCast, Int.natCast_nonneg, beq_self_eq_true, List.append_nil, beq_iff_eq, reduceCtorEq, List.getD_cons_zero, List.getD_cons_succ, loadA, rowA, pickA, bslA, storeA_eq, decide_true, flatA, List.length_cons, List.length_nil, Nat.reduceAdd, List.flatMap_cons, List.flatMap_nil, BEq.rfl, List.cons_append, List.nil_append, if_pos, if_neg, ordered, List.getElem?_cons_zero, List.getElem?_cons_succ, frzL, nidL, frz_func, frz_agg, frz_tup, frz_iface, fresh_func, fresh_agg, fresh_tup, fresh_iface, frz_ptr, frz_sl, fresh_sl, Cls.isFree, Cls.makes, callCls, chain, cond_true, tz, ty, faddrA, allocA, over, List.take_succ_cons, List.take_zero, List.drop_succ_cons, List.drop_zero, List.drop_nil, List.set_cons_zero, List.set_cons_succ, Nat.reduceLeDiff, and_self, Enc.S_len]; rfl) ?_
        exact ⟨_, rfl, rfl⟩
    · refine vcE.ex (by simp (disch := omega) only [exC, exOps, exOp, evE, evsE, putE, wantedE, Nat.reduceEqDiff, ↓reduceIte, ROp.run, same, binA, intA, strA, eqA, indexSA, byteA, unA, bounds3, Option.map_some, Option.map_none, dec_true, dec_false, Int.toNat_natCast, Int.natCast_nonneg, beq_self_eq_true, List.append_nil, beq_iff_eq, reduceCtorEq, List.getD_cons_zero, List.getD_cons_succ, loadA, rowA, pickA, bslA, storeA_eq, decide_true, flatA, List.length_cons, List.length_nil, Nat.reduceAdd, List.flatMap_cons, List.flatMap_nil, BEq.rfl, List.cons_append, List.nil_append, if_pos, if_neg, ordered, List.getElem?_cons_zero, List.getElem?_cons_succ, frzL, nidL, frz_func, frz_agg, frz_tup, frz_iface, fresh_func, fresh_agg, fresh_tup, fresh_iface, frz_ptr, frz_sl, fresh_sl, Cls.isFree, Cls.makes, callCls, chain, cond_true, tz, ty, faddrA, allocA, over, List.take_succ_cons, List.take_zero, List.drop_succ_cons, List.drop_zero, List.drop_nil, List.set_cons_zero, List.set_cons_succ, Nat.reduceLeDiff, and_self, Enc.S_len]; rfl) ?_
      exact ⟨_, rfl, rfl⟩
  · refine vcE.ex (by simp (disch := omega) only [exC, exOps, exOp, evE, evsE, putE, wantedE, Nat.reduceEqDiff, ↓reduceIte, ROp.run, same, binA, intA, strA, eqA, indexSA, byteA, unA, bounds3, Option.map_some, Option.map_none, dec_true, dec_false, Int.toNat_natCast, Int.natCast_nonneg, beq_self_eq_true, List.append_nil, beq_iff_eq, reduceCtorEq, List.getD_cons_zero, List.getD_cons_succ, loadA, rowA, pickA, bslA, storeA_eq, decide_true, flatA, List.length_cons, List.length_nil, Nat.reduceAdd, List.flatMap_cons, List.flatMap_nil, BEq.rfl, List.cons_append, List.nil_append, if_pos, if_neg, ordered, List.getElem?_cons_zero, List.getElem?_cons_succ, frzL, nidL, frz_func, frz_agg, frz_tup, frz_iface, fresh_func, fresh_agg, fresh_tup, fresh_iface, frz_ptr, frz_sl, fresh_sl, Cls.isFree, Cls.makes, callCls, chain, cond_true, tz, ty, faddrA, allocA, over, List.take_succ_cons, List.take_zero, List.drop_succ_cons, List.drop_zero, List.drop_nil, List.set_cons_zero, List.set_cons_succ, Nat.reduceLeDiff, and_self, Enc.S_len]; rfl) ?_
    exact ⟨_, rfl, rfl⟩

end Go.Gi
