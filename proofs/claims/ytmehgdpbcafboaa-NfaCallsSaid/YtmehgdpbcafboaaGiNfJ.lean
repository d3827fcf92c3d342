/- The document's answers for states, and the law that they are the program's. -/
import Derived.Test.YtmehgdpbcafboaaGiNfI
import Derived.Test.YtmehgdpbcafboaaGiNfH
set_option linter.unusedVariables false
set_option linter.unusedSimpArgs false
namespace Go.Gi
open Go Go.Proofs

theorem rSame (p : List UInt8) (f : Bool) (a c : UInt8) : PCF Try.prog 114 [nP p f, .int .u8 a.toNat, .int .u8 c.toNat] (.bool (sameB f a c)) := by
  refine pcf_e hmG J0_ok comp114 (by decide) (by simp) (nidL_ok rfl) ?_
  have ha := J0_fold [a] (by simp)
  have hc := J0_fold [c] (by simp)
  by_cases h : a = c
  · subst h
    refine vcE.ex (by simp (disch := first | assumption | omega) only [exC, exOps, exOp, evE, evsE, putE, wantedE, Nat.reduceEqDiff, ↓reduceIte, ROp.run, same, binA, intA, strA, eqA, indexSA, byteA, unA, bounds3, Option.map_some, Option.map_none, dec_true, dec_false, Int.toNat_natCast, Int.natCast_nonneg, beq_self_eq_true, List.append_nil, beq_iff_eq, reduceCtorEq, List.getD_cons_zero, List.getD_cons_succ, loadA, rowA, pickA, bslA, storeA_eq, decide_true, flatA, List.length_cons, List.length_nil, Nat.reduceAdd, List.flatMap_cons, List.flatMap_nil, BEq.rfl, List.cons_append, List.nil_append, if_pos, if_neg, ordered, List.getElem?_cons_zero, List.getElem?_cons_succ, frzL, nidL, frz_func, frz_agg, frz_tup, frz_iface, fresh_func, fresh_agg, fresh_tup, fresh_iface, frz_ptr, frz_sl, fresh_sl, Cls.isFree, Cls.makes, callCls, chain, cond_true, tz, ty, faddrA, allocA, over, List.take_succ_cons, List.take_zero, List.drop_succ_cons, List.drop_zero, List.drop_nil, List.set_cons_zero, List.set_cons_succ, Nat.reduceLeDiff, and_self, b2s_one, nP, nilchkA]; rfl) ?_
    refine ⟨_, rfl, ?_⟩
    have : sameB f a a = true := by cases f <;> simp [sameB]
    rw [this]
    rfl
  · have h' : ¬ ([a] = [c]) := by simpa using h
    cases f
    · refine vcE.ex (by simp (disch := first | assumption | omega) only [exC, exOps, exOp, evE, evsE, putE, wantedE, Nat.reduceEqDiff, ↓reduceIte, ROp.run, same, binA, intA, strA, eqA, indexSA, byteA, unA, bounds3, Option.map_some, Option.map_none, dec_true, dec_false, Int.toNat_natCast, Int.natCast_nonneg, beq_self_eq_true, List.append_nil, beq_iff_eq, reduceCtorEq, List.getD_cons_zero, List.getD_cons_succ, loadA, rowA, pickA, bslA, storeA_eq, decide_true, flatA, List.length_cons, List.length_nil, Nat.reduceAdd, List.flatMap_cons, List.flatMap_nil, BEq.rfl, List.cons_append, List.nil_append, if_pos, if_neg, ordered, List.getElem?_cons_zero, List.getElem?_cons_succ, frzL, nidL, frz_func, frz_agg, frz_tup, frz_iface, fresh_func, fresh_agg, fresh_tup, fresh_iface, frz_ptr, frz_sl, fresh_sl, Cls.isFree, Cls.makes, callCls, chain, cond_true, tz, ty, faddrA, allocA, over, List.take_succ_cons, List.take_zero, List.drop_succ_cons, List.drop_zero, List.drop_nil, List.set_cons_zero, List.set_cons_succ, Nat.reduceLeDiff, and_self, b2s_one, nP, nilchkA]; rfl) ?_
      refine ⟨_, rfl, ?_⟩
      simp [sameB, h]
      rfl
    · refine vcE.ex (by simp (disch := first | assumption | omega) only [exC, exOps, exOp, evE, evsE, putE, wantedE, Nat.reduceEqDiff, ↓reduceIte, ROp.run, same, binA, intA, strA, eqA, indexSA, byteA, unA, bounds3, Option.map_some, Option.map_none, dec_true, dec_false, Int.toNat_natCast, Int.natCast_nonneg, beq_self_eq_true, List.append_nil, beq_iff_eq, reduceCtorEq, List.getD_cons_zero, List.getD_cons_succ, loadA, rowA, pickA, bslA, storeA_eq, decide_true, flatA, List.length_cons, List.length_nil, Nat.reduceAdd, List.flatMap_cons, List.flatMap_nil, BEq.rfl, List.cons_append, List.nil_append, if_pos, if_neg, ordered, List.getElem?_cons_zero, List.getElem?_cons_succ, frzL, nidL, frz_func, frz_agg, frz_tup, frz_iface, fresh_func, fresh_agg, fresh_tup, fresh_iface, frz_ptr, frz_sl, fresh_sl, Cls.isFree, Cls.makes, callCls, chain, cond_true, tz, ty, faddrA, allocA, over, List.take_succ_cons, List.take_zero, List.drop_succ_cons, List.drop_zero, List.drop_nil, List.set_cons_zero, List.set_cons_succ, Nat.reduceLeDiff, and_self, b2s_one, nP, nilchkA, ha, hc, List.map_cons, List.map_nil]; rfl) ?_
      refine ⟨_, rfl, ?_⟩
      have : (decide ([foldB a] = [foldB c])) = decide (foldB a = foldB c) := by simp
      simp only [upd_app, Nat.reduceEqDiff, ↓reduceIte, fresh_bool, sameB, this]

/-- The row at a place of 'on'. -/
def rI (p : List UInt8) (b : Nat → Bool) (i j : Nat) : Bool := if j ≤ i then clo p b j else b j
theorem rI_zero (p : List UInt8) (b : Nat → Bool) : rI p b 0 = b := by
  funext j
  unfold rI
  split
  · rename_i h
    obtain rfl : j = 0 := by omega
    rfl
  · rfl
theorem rI_at (p : List UInt8) (b : Nat → Bool) (i : Nat) : rI p b i i = clo p b i := by simp [rI]
theorem rI_step {p : List UInt8} {b : Nat → Bool} {i : Nat} (h : (clo p b i && isStar p i) = true) : (fun j => rI p b i j || decide (j = i + 1)) = rI p b (i + 1) := by
  funext j
  unfold rI
  by_cases h1 : j ≤ i
  · rw [if_pos h1, if_pos (by omega)]
    simp
    omega
  · rw [if_neg h1]
    by_cases h2 : j = i + 1
    · subst h2
      rw [if_pos (Nat.le_refl _)]
      simp [clo, h]
    · rw [if_neg (by omega)]
      simp [h2]
theorem rI_keep {p : List UInt8} {b : Nat → Bool} {i : Nat} (h : (clo p b i && isStar p i) = false) : rI p b (i + 1) = rI p b i := by
  funext j
  unfold rI
  by_cases h1 : j ≤ i
  · rw [if_pos h1, if_pos (by omega)]
  · rw [if_neg h1]
    by_cases h2 : j = i + 1
    · subst h2
      rw [if_pos (Nat.le_refl _)]
      simp [clo, h]
    · rw [if_neg (by omega)]

theorem rOn (p : List UInt8) (f : Bool) (hl : p.length ≤ 100000) {hp : HP} {id : Nat} {b : Nat → Bool} {lo : Nat} {ex : Bool} (h : hp[id]? = some (rowBlk (p.length + 1) b)) :
    ACalls Try.prog 113 [nP p f, .sl id 0 (p.length + 1) 1 lo ex] hp fun r hp' => ∃ oid, r = bld oid (lst (p.length + 1) (clo p b)).length 1 ∧ BldAt encI hp' oid 3 (lst (p.length + 1) (clo p b)) := by
  have hidl := get_lt h
  refine calls_e hmG (TabOk.none _) comp113 (by decide) (by simp) ?_
  have hfull : rowB (p.length + 1) (rI p b (p.length + 1)) = rowB (p.length + 1) (clo p b) := rowB_congr fun j hj => by simp [rI]; intro h; omega
  refine vcE.step (by simp only [exC, exOps, exOp, evE, evsE, putE, wantedE, Nat.reduceEqDiff, ↓reduceIte, ROp.run, same, binA, intA, strA, eqA, indexSA, byteA, unA, bounds3, Option.map_some, Option.map_none, dec_true, dec_false, Int.toNat_natCast, Int.natCast_nonneg, beq_self_eq_true, List.append_nil, beq_iff_eq, reduceCtorEq, List.getD_cons_zero, List.getD_cons_succ, loadA, rowA, pickA, bslA, storeA_eq, decide_true, flatA, List.length_cons, List.length_nil, Nat.reduceAdd, List.flatMap_cons, List.flatMap_nil, BEq.rfl, List.cons_append, List.nil_append, if_pos, if_neg, ordered, List.getElem?_cons_zero, List.getElem?_cons_succ, frzL, nidL, frz_func, frz_agg, frz_tup, frz_iface, fresh_func, fresh_agg, fresh_tup, fresh_iface, frz_ptr, frz_sl, fresh_sl, Cls.isFree, Cls.makes, callCls, chain, cond_true, tz, ty]; rfl) (vcE.step (by simp only [exC, exOps, exOp, evE, evsE, putE, wantedE, Nat.reduceEqDiff, ↓reduceIte, ROp.run, same, binA, intA, strA, eqA, indexSA, byteA, unA, bounds3, Option.map_some, Option.map_none, dec_true, dec_false, Int.toNat_natCast, Int.natCast_nonneg, beq_self_eq_true, List.append_nil, beq_iff_eq, reduceCtorEq, List.getD_cons_zero, List.getD_cons_succ, loadA, rowA, pickA, bslA, storeA_eq, decide_true, flatA, List.length_cons, List.length_nil, Nat.reduceAdd, List.flatMap_cons, List.flatMap_nil, BEq.rfl, List.cons_append, List.nil_append, if_pos, if_neg, ordered, List.getElem?_cons_zero, List.getElem?_cons_succ, frzL, nidL, frz_func, frz_agg, frz_tup, frz_iface, fresh_func, fresh_agg, fresh_tup, fresh_iface, frz_ptr, frz_sl, fresh_sl, Cls.isFree, Cls.makes, callCls, chain, cond_true, tz, ty]; rfl) (vcE.then (fun e tm hp' => e = .normal ∧ ∃ oid, tm 5 = bld oid (lst (p.length + 1) (clo p b)).length 1 ∧ BldAt encI hp' oid 3 (lst (p.length + 1) (clo p b))) ?_ ?_))
  · refine vcE.step (by simp only [exC, exOps, exOp, evE, evsE, putE, wantedE, Nat.reduceEqDiff, ↓reduceIte, ROp.run, same, binA, intA, strA, eqA, indexSA, byteA, unA, bounds3, Option.map_some, Option.map_none, dec_true, dec_false, Int.toNat_natCast, Int.natCast_nonneg, beq_self_eq_true, List.append_nil, beq_iff_eq, reduceCtorEq, List.getD_cons_zero, List.getD_cons_succ, loadA, rowA, pickA, bslA, storeA_eq, decide_true, flatA, List.length_cons, List.length_nil, Nat.reduceAdd, List.flatMap_cons, List.flatMap_nil, BEq.rfl, List.cons_append, List.nil_append, if_pos, if_neg, ordered, List.getElem?_cons_zero, List.getElem?_cons_succ, frzL, nidL, frz_func, frz_agg, frz_tup, frz_iface, fresh_func, fresh_agg, fresh_tup, fresh_iface, frz_ptr, frz_sl, fresh_sl, Cls.isFree, Cls.makes, callCls, chain, cond_true, tz, ty]; rfl) (vcE.block (vcE.count (by intro l tm hp h; simp at h) (fun i tm hp' => ∃ oid, tm 0 = nP p f ∧ tm 1 = .sl id 0 (p.length + 1) 1 lo ex ∧ tm 6 = .int .i64 i ∧ tm 5 = bld oid (listTo (rowB (p.length + 1) (clo p b)) i).length 1 ∧ hp'[id]? = some (rowBlk (p.length + 1) (rI p b i)) ∧ BldAt encI hp' oid 3 (listTo (rowB (p.length + 1) (clo p b)) i) ∧ ((listTo (rowB (p.length + 1) (clo p b)) i).length = 0 ∨ id ≠ oid)) (p.length + 1) ⟨0, ?_, ?_, ?_, ?_, ?_, BldAt.nil _ _ _ _, .inl rfl⟩ ?_ ?_))
    · rfl
    · rfl
    · rfl
    · rfl
    · rw [rI_zero]; exact h
    · rintro i tm hp' hi ⟨oid, e0, e1, e6, e5, hrow, hb, hne⟩
      have hlen := listTo_len (rowB (p.length + 1) (clo p b)) i
      have hrow' : hp'[id]? = some (some (.row 4 (encT.cs (rowB (p.length + 1) (rI p b i))))) := hrow
      have hpick := encT.pick1 (l := rowB (p.length + 1) (rI p b i)) rfl (rowB_get hi) (v := .bool (rI p b i i)) rfl rfl
      rw [rI_at] at hpick
      have hget : (rowB (p.length + 1) (clo p b))[i]? = some (clo p b i) := rowB_get hi
      cases hc : clo p b i
      · rw [hc] at hpick hget
        have hk := rI_keep (p := p) (b := b) (i := i) (by rw [hc]; rfl)
        have hidc : ((p.length + 1 : Nat) : Int) = (p.length : Int) + 1 := rfl
        refine vcE.ex (by simp (disch := omega) only [exC, exOps, exOp, evE, evsE, putE, wantedE, Nat.reduceEqDiff, ↓reduceIte, ROp.run, same, binA, intA, strA, eqA, indexSA, byteA, unA, bounds3, Option.map_some, Option.map_none, dec_true, dec_false, Int.toNat_natCast, Int.natCast_nonneg, beq_self_eq_true, List.append_nil, beq_iff_eq, reduceCtorEq, List.getD_cons_zero, List.getD_cons_succ, loadA, rowA, pickA, bslA, storeA_eq, decide_true, flatA, List.length_cons, List.length_nil, Nat.reduceAdd, List.flatMap_cons, List.flatMap_nil, BEq.rfl, List.cons_append, List.nil_append, if_pos, if_neg, ordered, List.getElem?_cons_zero, List.getElem?_cons_succ, frzL, nidL, frz_func, frz_agg, frz_tup, frz_iface, fresh_func, fresh_agg, fresh_tup, fresh_iface, frz_ptr, frz_sl, fresh_sl, Cls.isFree, Cls.makes, callCls, chain, cond_true, tz, ty, faddrA, allocA, over, List.take_succ_cons, List.take_zero, List.drop_succ_cons, List.drop_zero, List.drop_nil, List.set_cons_zero, List.set_cons_succ, Nat.reduceLeDiff, and_self, e0, e1, e6, iaddr_sl1, hrow', ↓hpick]; rfl) ?_
        refine ⟨oid, ?_, ?_, ?_, ?_, ?_, ?_, ?_⟩
        · simp only [upd_app, Nat.reduceEqDiff, ↓reduceIte, e0]
        · simp only [upd_app, Nat.reduceEqDiff, ↓reduceIte, e1]
        · simp only [upd_app, Nat.reduceEqDiff, ↓reduceIte]; rfl
        · simp only [upd_app, Nat.reduceEqDiff, ↓reduceIte, e5, listTo_no hget]
        · rw [hk]; exact hrow
        · rw [listTo_no hget]; exact hb
        · rw [listTo_no hget]; exact hne
      · rw [hc] at hpick hget
        have hL := listTo_one hget
        have happ := (hb.app [some (.row 3 [.int .i64 (i : Int)])]).more (bytes := 8) (m := [(i : Int)]) (src_int (ex := true)) (by simp) (by simp; omega) (by simp; omega)
        simp only [show encI.sz = 1 from rfl] at happ
        have hat := BldAt.moreAt encI (hp' ++ [some (.row 3 [.int .i64 (i : Int)])]) oid (listTo (rowB (p.length + 1) (clo p b)) i).length 3 (listTo (rowB (p.length + 1) (clo p b)) i ++ [(i : Int)])
        have hnew : (hp' ++ [some (Blk.row 3 [.int .i64 (i : Int)])]).length ≠ id := by
          have := get_lt hrow
          simp
          omega
        have hrow2 := bldH_other (b := .row 3 (encI.cs (listTo (rowB (p.length + 1) (clo p b)) i ++ [(i : Int)]))) (app_get (new := [some (.row 3 [.int .i64 (i : Int)])]) hrow) hne
        generalize hH : bldH (hp' ++ [some (Blk.row 3 [.int .i64 (i : Int)])]) oid (listTo (rowB (p.length + 1) (clo p b)) i).length (.row 3 (encI.cs (listTo (rowB (p.length + 1) (clo p b)) i ++ [(i : Int)]))) = H at *
        have stay : rI p b (i + 1) = rI p b i → ∀ tm' : Env, tm' 0 = nP p f → tm' 1 = .sl id 0 (p.length + 1) 1 lo ex → tm' 6 = .int .i64 ((i + 1 : Nat) : Int) → tm' 5 = bld (hp' ++ [some (Blk.row 3 [.int .i64 (i : Int)])]).length (listTo (rowB (p.length + 1) (clo p b)) i ++ [(i : Int)]).length 1 → ∃ oid, tm' 0 = nP p f ∧ tm' 1 = .sl id 0 (p.length + 1) 1 lo ex ∧ tm' 6 = .int .i64 ((i + 1 : Nat) : Int) ∧ tm' 5 = bld oid (listTo (rowB (p.length + 1) (clo p b)) (i + 1)).length 1 ∧ H[id]? = some (rowBlk (p.length + 1) (rI p b (i + 1))) ∧ BldAt encI H oid 3 (listTo (rowB (p.length + 1) (clo p b)) (i + 1)) ∧ ((listTo (rowB (p.length + 1) (clo p b)) (i + 1)).length = 0 ∨ id ≠ oid) := fun hk tm' k0 k1 k6 k5 =>
          ⟨_, k0, k1, k6, by rw [hL]; exact k5, by rw [hk]; exact hrow2, by rw [hL]; exact hat, .inr (fun e => hnew e.symm)⟩
        by_cases hil : i < p.length
        · obtain ⟨a, ha⟩ : ∃ a, p[i]? = some a := ⟨_, List.getElem?_eq_getElem hil⟩
          by_cases h42 : a.toNat = 42
          · have hs : (clo p b i && isStar p i) = true := by
              rw [hc]
              simp only [isStar, ha, Bool.true_and, decide_eq_true_eq, Option.some.injEq]
              exact UInt8.toNat_inj.1 h42
            have hk := rI_step hs
            have hst := rowBlk_store hrow2 (show i + 1 < p.length + 1 by omega)
            rw [hk] at hst
            have hi1 : ((i : Int) + 1) = ((i + 1 : Nat) : Int) := rfl
            refine vcE.ex (by simp (disch := omega) only [exC, exOps, exOp, evE, evsE, putE, wantedE, Nat.reduceEqDiff, ↓reduceIte, ROp.run, same, binA, intA, strA, eqA, indexSA, byteA, unA, bounds3, Option.map_some, Option.map_none, dec_true, dec_false, Int.toNat_natCast, Int.natCast_nonneg, beq_self_eq_true, List.append_nil, beq_iff_eq, reduceCtorEq, List.getD_cons_zero, List.getD_cons_succ, loadA, rowA, pickA, bslA, storeA_eq, decide_true, flatA, List.length_cons, List.length_nil, Nat.reduceAdd, List.flatMap_cons, List.flatMap_nil, BEq.rfl, List.cons_append, List.nil_append, if_pos, if_neg, ordered, List.getElem?_cons_zero, List.getElem?_cons_succ, frzL, nidL, frz_func, frz_agg, frz_tup, frz_iface, fresh_func, fresh_agg, fresh_tup, fresh_iface, frz_ptr, frz_sl, fresh_sl, Cls.isFree, Cls.makes, callCls, chain, cond_true, tz, ty, faddrA, allocA, over, List.take_succ_cons, List.take_zero, List.drop_succ_cons, List.drop_zero, List.drop_nil, List.set_cons_zero, List.set_cons_succ, Nat.reduceLeDiff, and_self, e0, e1, e5, e6, iaddr_sl1, hrow', ↓hpick, happ, nP, nilchkA, ha, h42, hi1, ↓hst]; rfl) ?_
            refine ⟨(hp' ++ [some (Blk.row 3 [.int .i64 (i : Int)])]).length, ?_, ?_, ?_, ?_, set_get hrow2, ?_, .inr (fun e => hnew e.symm)⟩
            · simp only [upd_app, Nat.reduceEqDiff, ↓reduceIte, e0, nP]
            · simp only [upd_app, Nat.reduceEqDiff, ↓reduceIte, e1]
            · simp only [upd_app, Nat.reduceEqDiff, ↓reduceIte]
            · simp only [upd_app, Nat.reduceEqDiff, ↓reduceIte, hL]
            · rw [hL]
              rcases hat with hat | hat
              · simp at hat
              · exact .inr (by rw [set_get_ne (fun e => hnew e.symm)]; exact hat)
          · have hs : (clo p b i && isStar p i) = false := by
              have : isStar p i = false := by
                simp only [isStar, ha, decide_eq_false_iff_not, Option.some.injEq]
                rintro rfl
                exact h42 rfl
              rw [this, Bool.and_false]
            refine vcE.ex (by simp (disch := omega) only [exC, exOps, exOp, evE, evsE, putE, wantedE, Nat.reduceEqDiff, ↓reduceIte, ROp.run, same, binA, intA, strA, eqA, indexSA, byteA, unA, bounds3, Option.map_some, Option.map_none, dec_true, dec_false, Int.toNat_natCast, Int.natCast_nonneg, beq_self_eq_true, List.append_nil, beq_iff_eq, reduceCtorEq, List.getD_cons_zero, List.getD_cons_succ, loadA, rowA, pickA, bslA, storeA_eq, decide_true, flatA, List.length_cons, List.length_nil, Nat.reduceAdd, List.flatMap_cons, List.flatMap_nil, BEq.rfl, List.cons_append, List.nil_append, if_pos, if_neg, ordered, List.getElem?_cons_zero, List.getElem?_cons_succ, frzL, nidL, frz_func, frz_agg, frz_tup, frz_iface, fresh_func, fresh_agg, fresh_tup, fresh_iface, frz_ptr, frz_sl, fresh_sl, Cls.isFree, Cls.makes, callCls, chain, cond_true, tz, ty, faddrA, allocA, over, List.take_succ_cons, List.take_zero, List.drop_succ_cons, List.drop_zero, List.drop_nil, List.set_cons_zero, List.set_cons_succ, Nat.reduceLeDiff, and_self, e0, e1, e5, e6, iaddr_sl1, hrow', ↓hpick, happ, nP, nilchkA, ha]; rfl) ?_
            refine stay (rI_keep hs) _ ?_ ?_ ?_ ?_
            · simp only [upd_app, Nat.reduceEqDiff, ↓reduceIte, e0, nP]
            · simp only [upd_app, Nat.reduceEqDiff, ↓reduceIte, e1]
            · simp only [upd_app, Nat.reduceEqDiff, ↓reduceIte]; rfl
            · simp only [upd_app, Nat.reduceEqDiff, ↓reduceIte]
        · have hs : (clo p b i && isStar p i) = false := by
            have : isStar p i = false := by
              simp only [isStar, List.getElem?_eq_none (show p.length ≤ i by omega), decide_eq_false_iff_not]
              simp
            rw [this, Bool.and_false]
          refine vcE.ex (by simp (disch := omega) only [exC, exOps, exOp, evE, evsE, putE, wantedE, Nat.reduceEqDiff, ↓reduceIte, ROp.run, same, binA, intA, strA, eqA, indexSA, byteA, unA, bounds3, Option.map_some, Option.map_none, dec_true, dec_false, Int.toNat_natCast, Int.natCast_nonneg, beq_self_eq_true, List.append_nil, beq_iff_eq, reduceCtorEq, List.getD_cons_zero, List.getD_cons_succ, loadA, rowA, pickA, bslA, storeA_eq, decide_true, flatA, List.length_cons, List.length_nil, Nat.reduceAdd, List.flatMap_cons, List.flatMap_nil, BEq.rfl, List.cons_append, List.nil_append, if_pos, if_neg, ordered, List.getElem?_cons_zero, List.getElem?_cons_succ, frzL, nidL, frz_func, frz_agg, frz_tup, frz_iface, fresh_func, fresh_agg, fresh_tup, fresh_iface, frz_ptr, frz_sl, fresh_sl, Cls.isFree, Cls.makes, callCls, chain, cond_true, tz, ty, faddrA, allocA, over, List.take_succ_cons, List.take_zero, List.drop_succ_cons, List.drop_zero, List.drop_nil, List.set_cons_zero, List.set_cons_succ, Nat.reduceLeDiff, and_self, e0, e1, e5, e6, iaddr_sl1, hrow', ↓hpick, happ, nP, nilchkA]; rfl) ?_
          refine stay (rI_keep hs) _ ?_ ?_ ?_ ?_
          · simp only [upd_app, Nat.reduceEqDiff, ↓reduceIte, e0, nP]
          · simp only [upd_app, Nat.reduceEqDiff, ↓reduceIte, e1]
          · simp only [upd_app, Nat.reduceEqDiff, ↓reduceIte]; rfl
          · simp only [upd_app, Nat.reduceEqDiff, ↓reduceIte]
    · rintro tm hp' ⟨oid, e0, e1, e6, e5, hrow, hb, hne⟩
      refine vcE.ex (by simp (disch := omega) only [exC, exOps, exOp, evE, evsE, putE, wantedE, Nat.reduceEqDiff, ↓reduceIte, ROp.run, same, binA, intA, strA, eqA, indexSA, byteA, unA, bounds3, Option.map_some, Option.map_none, dec_true, dec_false, Int.toNat_natCast, Int.natCast_nonneg, beq_self_eq_true, List.append_nil, beq_iff_eq, reduceCtorEq, List.getD_cons_zero, List.getD_cons_succ, loadA, rowA, pickA, bslA, storeA_eq, decide_true, flatA, List.length_cons, List.length_nil, Nat.reduceAdd, List.flatMap_cons, List.flatMap_nil, BEq.rfl, List.cons_append, List.nil_append, if_pos, if_neg, ordered, List.getElem?_cons_zero, List.getElem?_cons_succ, frzL, nidL, frz_func, frz_agg, frz_tup, frz_iface, fresh_func, fresh_agg, fresh_tup, fresh_iface, frz_ptr, frz_sl, fresh_sl, Cls.isFree, Cls.makes, callCls, chain, cond_true, tz, ty, faddrA, allocA, over, List.take_succ_cons, List.take_zero, List.drop_succ_cons, List.drop_zero, List.drop_nil, List.set_cons_zero, List.set_cons_succ, Nat.reduceLeDiff, and_self, e1, e6]; rfl) ?_
      refine ⟨rfl, oid, ?_, ?_⟩
      · simp only [upd_app, Nat.reduceEqDiff, ↓reduceIte, e5]
        unfold lst listB
        rw [rowB_len]
      · unfold lst listB
        rw [rowB_len]
        exact hb
  · rintro e tm hp' ⟨rfl, oid, e5, hb⟩
    refine vcE.ex (by simp (disch := omega) only [exC, exOps, exOp, evE, evsE, putE, wantedE, Nat.reduceEqDiff, ↓reduceIte, ROp.run, same, binA, intA, strA, eqA, indexSA, byteA, unA, bounds3, Option.map_some, Option.map_none, dec_true, dec_false, Int.toNat_natCast, Int.natCast_nonneg, beq_self_eq_true, List.append_nil, beq_iff_eq, reduceCtorEq, List.getD_cons_zero, List.getD_cons_succ, loadA, rowA, pickA, bslA, storeA_eq, decide_true, flatA, List.length_cons, List.length_nil, Nat.reduceAdd, List.flatMap_cons, List.flatMap_nil, BEq.rfl, List.cons_append, List.nil_append, if_pos, if_neg, ordered, List.getElem?_cons_zero, List.getElem?_cons_succ, frzL, nidL, frz_func, frz_agg, frz_tup, frz_iface, fresh_func, fresh_agg, fresh_tup, fresh_iface, frz_ptr, frz_sl, fresh_sl, Cls.isFree, Cls.makes, callCls, chain, cond_true, tz, ty, faddrA, allocA, over, List.take_succ_cons, List.take_zero, List.drop_succ_cons, List.drop_zero, List.drop_nil, List.set_cons_zero, List.set_cons_succ, Nat.reduceLeDiff, and_self, e5]; rfl) ?_
    exact ⟨_, rfl, oid, rfl, hb⟩

theorem rStart (p : List UInt8) (f : Bool) (hl : p.length ≤ 100000) : PCF Try.prog 62 [nP p f] (encI.S (lst (p.length + 1) (startS p))) := by
  refine pcf_e hmG (TabOk.none _) comp62 (by decide) (by simp) (nidL_ok rfl) ?_
  have hc : ((p.length : Int) + 1) = ((p.length + 1 : Nat) : Int) := rfl
  have hst := rowBlk_store (hp := [rowBlk (p.length + 1) fun _ => false]) (id := 0) (N := p.length + 1) (i := 0) rfl (by omega)
  refine vcE.step (by simp only [exC, exOps, exOp, evE, evsE, putE, wantedE, Nat.reduceEqDiff, ↓reduceIte, ROp.run, same, binA, intA, strA, eqA, indexSA, byteA, unA, bounds3, Option.map_some, Option.map_none, dec_true, dec_false, Int.toNat_natCast, Int.natCast_nonneg, beq_self_eq_true, List.append_nil, beq_iff_eq, reduceCtorEq, List.getD_cons_zero, List.getD_cons_succ, loadA, rowA, pickA, bslA, storeA_eq, decide_true, flatA, List.length_cons, List.length_nil, Nat.reduceAdd, List.flatMap_cons, List.flatMap_nil, BEq.rfl, List.cons_append, List.nil_append, if_pos, if_neg, ordered, List.getElem?_cons_zero, List.getElem?_cons_succ, frzL, nidL, frz_func, frz_agg, frz_tup, frz_iface, fresh_func, fresh_agg, fresh_tup, fresh_iface, frz_ptr, frz_sl, fresh_sl, Cls.isFree, Cls.makes, callCls, chain, cond_true, tz, ty]; rfl) (vcE.step (by simp (disch := omega) only [exC, exOps, exOp, evE, evsE, putE, wantedE, Nat.reduceEqDiff, ↓reduceIte, ROp.run, same, binA, intA, strA, eqA, indexSA, byteA, unA, bounds3, Option.map_some, Option.map_none, dec_true, dec_false, Int.toNat_natCast, Int.natCast_nonneg, beq_self_eq_true, List.append_nil, beq_iff_eq, reduceCtorEq, List.getD_cons_zero, List.getD_cons_succ, loadA, rowA, pickA, bslA, storeA_eq, decide_true, flatA, List.length_cons, List.length_nil, Nat.reduceAdd, List.flatMap_cons, List.flatMap_nil, BEq.rfl, List.cons_append, List.nil_append, if_pos, if_neg, ordered, List.getElem?_cons_zero, List.getElem?_cons_succ, frzL, nidL, frz_func, frz_agg, frz_tup, frz_iface, fresh_func, fresh_agg, fresh_tup, fresh_iface, frz_ptr, frz_sl, fresh_sl, Cls.isFree, Cls.makes, callCls, chain, cond_true, tz, ty, faddrA, allocA, over, List.take_succ_cons, List.take_zero, List.drop_succ_cons, List.drop_zero, List.drop_nil, List.set_cons_zero, List.set_cons_succ, Nat.reduceLeDiff, and_self, nP, nilchkA, hc, make_row]; rfl) (vcE.step (by simp (disch := omega) only [exC, exOps, exOp, evE, evsE, putE, wantedE, Nat.reduceEqDiff, ↓reduceIte, ROp.run, same, binA, intA, strA, eqA, indexSA, byteA, unA, bounds3, Option.map_some, Option.map_none, dec_true, dec_false, Int.toNat_natCast, Int.natCast_nonneg, beq_self_eq_true, List.append_nil, beq_iff_eq, reduceCtorEq, List.getD_cons_zero, List.getD_cons_succ, loadA, rowA, pickA, bslA, storeA_eq, decide_true, flatA, List.length_cons, List.length_nil, Nat.reduceAdd, List.flatMap_cons, List.flatMap_nil, BEq.rfl, List.cons_append, List.nil_append, if_pos, if_neg, ordered, List.getElem?_cons_zero, List.getElem?_cons_succ, frzL, nidL, frz_func, frz_agg, frz_tup, frz_iface, fresh_func, fresh_agg, fresh_tup, fresh_iface, frz_ptr, frz_sl, fresh_sl, Cls.isFree, Cls.makes, callCls, chain, cond_true, tz, ty, faddrA, allocA, over, List.take_succ_cons, List.take_zero, List.drop_succ_cons, List.drop_zero, List.drop_nil, List.set_cons_zero, List.set_cons_succ, Nat.reduceLeDiff, and_self, show (0 : Int) = ((0 : Nat) : Int) from rfl, iaddr_sl1, ↓hst]; rfl) (vcE.seq ?_)))
  rw [show r62_3 = r62_3.take 2 ++ ((r62_3.drop 2).take 1 ++ r62_3.drop 3) from rfl]
  refine vcE.app (vcE.ex (by simp (disch := omega) only [exC, exOps, exOp, evE, evsE, putE, wantedE, Nat.reduceEqDiff, ↓reduceIte, ROp.run, same, binA, intA, strA, eqA, indexSA, byteA, unA, bounds3, Option.map_some, Option.map_none, dec_true, dec_false, Int.toNat_natCast, Int.natCast_nonneg, beq_self_eq_true, List.append_nil, beq_iff_eq, reduceCtorEq, List.getD_cons_zero, List.getD_cons_succ, loadA, rowA, pickA, bslA, storeA_eq, decide_true, flatA, List.length_cons, List.length_nil, Nat.reduceAdd, List.flatMap_cons, List.flatMap_nil, BEq.rfl, List.cons_append, List.nil_append, if_pos, if_neg, ordered, List.getElem?_cons_zero, List.getElem?_cons_succ, frzL, nidL, frz_func, frz_agg, frz_tup, frz_iface, fresh_func, fresh_agg, fresh_tup, fresh_iface, frz_ptr, frz_sl, fresh_sl, Cls.isFree, Cls.makes, callCls, chain, cond_true, tz, ty, faddrA, allocA, over, List.take_succ_cons, List.take_zero, List.drop_succ_cons, List.drop_zero, List.drop_nil, List.set_cons_zero, List.set_cons_succ, Nat.reduceLeDiff, and_self]; rfl) ⟨rfl, vcE.app (vcE.call (f := 113) (caps := []) (ys := [nP p f, .sl 0 0 (p.length + 1) 1 (p.length + 1) true]) rfl rfl (rOn p f hl (hp := [rowBlk (p.length + 1) fun j => false || decide (j = 0)]) (id := 0) (b := fun j => false || decide (j = 0)) rfl) ?_)⟩)
  rintro r hp' ⟨oid, rfl, hb⟩
  refine ⟨rfl, vcE.ex (by simp (disch := omega) only [exC, exOps, exOp, evE, evsE, putE, wantedE, Nat.reduceEqDiff, ↓reduceIte, ROp.run, same, binA, intA, strA, eqA, indexSA, byteA, unA, bounds3, Option.map_some, Option.map_none, dec_true, dec_false, Int.toNat_natCast, Int.natCast_nonneg, beq_self_eq_true, List.append_nil, beq_iff_eq, reduceCtorEq, List.getD_cons_zero, List.getD_cons_succ, loadA, rowA, pickA, bslA, storeA_eq, decide_true, flatA, List.length_cons, List.length_nil, Nat.reduceAdd, List.flatMap_cons, List.flatMap_nil, BEq.rfl, List.cons_append, List.nil_append, if_pos, if_neg, ordered, List.getElem?_cons_zero, List.getElem?_cons_succ, frzL, nidL, frz_func, frz_agg, frz_tup, frz_iface, fresh_func, fresh_agg, fresh_tup, fresh_iface, frz_ptr, frz_sl, fresh_sl, Cls.isFree, Cls.makes, callCls, chain, cond_true, tz, ty, faddrA, allocA, over, List.take_succ_cons, List.take_zero, List.drop_succ_cons, List.drop_zero, List.drop_nil, List.set_cons_zero, List.set_cons_succ, Nat.reduceLeDiff, and_self]; rfl) ?_⟩
  refine vcE.ex (by simp only [exC, exOps, exOp, evE, evsE, putE, wantedE, Nat.reduceEqDiff, ↓reduceIte, ROp.run, same, binA, intA, strA, eqA, indexSA, byteA, unA, bounds3, Option.map_some, Option.map_none, dec_true, dec_false, Int.toNat_natCast, Int.natCast_nonneg, beq_self_eq_true, List.append_nil, beq_iff_eq, reduceCtorEq, List.getD_cons_zero, List.getD_cons_succ, loadA, rowA, pickA, bslA, storeA_eq, decide_true, flatA, List.length_cons, List.length_nil, Nat.reduceAdd, List.flatMap_cons, List.flatMap_nil, BEq.rfl, List.cons_append, List.nil_append, if_pos, if_neg, ordered, List.getElem?_cons_zero, List.getElem?_cons_succ, frzL, nidL, frz_func, frz_agg, frz_tup, frz_iface, fresh_func, fresh_agg, fresh_tup, fresh_iface, frz_ptr, frz_sl, fresh_sl, Cls.isFree, Cls.makes, callCls, chain, cond_true, tz, ty]; rfl) ?_
  have e : clo p (fun j => false || decide (j = 0)) = startS p := by
    unfold startS
    congr 1
  rw [e] at hb
  refine ⟨_, rfl, ?_⟩
  simp only [e]
  exact hb.fresh

/-- What the numbers so far lead to. -/
def leadTo (s : UInt8 → UInt8 → Bool) (p : List UInt8) (c : UInt8) (l : List Int) : Nat → Bool := leads s p (ofS l) c
theorem leadTo_snoc {s : UInt8 → UInt8 → Bool} {p : List UInt8} {c : UInt8} {l : List Int} {k : Nat} {a : UInt8} (ha : p[k]? = some a) (j : Nat) :
    leadTo s p c (l ++ [(k : Int)]) j = (leadTo s p c l j || (if a = 42 then decide (j = k) else (takes s p k c && decide (j = k + 1)))) := by
  have ho : ∀ i, ofS (l ++ [(k : Int)]) i = (ofS l i || decide (i = k)) := fun i => inS_snoc l k i
  unfold leadTo
  by_cases h42 : a = 42
  · subst h42
    rw [if_pos rfl]
    have hs : isStar p k = true := by simp [isStar, ha]
    have ht : takes s p k c = false := by simp [takes, ha]
    cases j with
    | zero =>
      simp only [leads, ho]
      by_cases hk : 0 = k
      · subst hk; rw [hs]; simp
      · simp [hk]
    | succ j =>
      simp only [leads, ho]
      by_cases hk : j + 1 = k
      · subst hk
        rw [hs]
        have : decide (j = j + 1) = false := by simp
        simp [this]
      · by_cases hk2 : j = k
        · subst hk2
          rw [ht]
          simp
        · simp [hk, hk2]
  · rw [if_neg h42]
    have hs : isStar p k = false := by simp [isStar, ha, h42]
    cases j with
    | zero =>
      simp only [leads, ho]
      by_cases hk : 0 = k
      · subst hk; rw [hs]; simp
      · simp [hk]
    | succ j =>
      simp only [leads, ho]
      by_cases hk : j + 1 = k
      · subst hk
        rw [hs]
        have h1 : decide (j = j + 1) = false := by simp
        have h2 : decide (j + 1 = j + 1 + 1) = false := by simp
        simp [h1, h2]
      · by_cases hk2 : j = k
        · subst hk2
          have h1 : decide (j + 1 = j) = false := by simp
          simp only [h1, Bool.or_false, decide_true, Bool.or_true, Bool.true_and, Bool.and_true]
          cases isStar p (j + 1) <;> cases ofS l (j + 1) <;> cases ofS l j <;> cases takes s p j c <;> rfl
        · have h1 : decide (j + 1 = k) = false := by simpa using hk
          have h2 : decide (j = k) = false := by simpa using hk2
          have h3 : decide (j + 1 = k + 1) = false := by simpa using hk2
          simp [h1, h2, h3]
theorem leadTo_out {s : UInt8 → UInt8 → Bool} {p : List UInt8} {c : UInt8} {l : List Int} {v : Int} (hv : v < 0 ∨ (p.length : Int) ≤ v) {j : Nat} (hj : j < p.length + 1) : leadTo s p c (l ++ [v]) j = leadTo s p c l j := by
  have ho : ∀ i, i < p.length → ofS (l ++ [v]) i = ofS l i := fun i hi => by
    simp only [ofS]
    congr 1
    apply propext
    simp only [List.mem_append, List.mem_singleton]
    constructor
    · rintro (h | h)
      · exact h
      · omega
    · exact .inl
  have hst : ∀ i, ¬ i < p.length → isStar p i = false := fun i hi => by simp [isStar, List.getElem?_eq_none (show p.length ≤ i by omega)]
  unfold leadTo
  cases j with
  | zero =>
    simp only [leads]
    by_cases h0 : 0 < p.length
    · rw [ho 0 h0]
    · rw [hst 0 h0]; simp
  | succ j =>
    simp only [leads]
    rw [ho j (by omega)]
    by_cases h0 : j + 1 < p.length
    · rw [ho _ h0]
    · rw [hst _ h0]; simp

def J1 : Tab := J0.addO 114 (.cons .nfa (.cons .u8 (.cons .u8 .nil))) fun p => match p.1 with
  | some (_, f) => some (.rd true (.bool (sameB f p.2.1 p.2.2.1)))
  | none => none
theorem J1_ok : TabOk Try.prog J1 := by
  refine TabOk.addO J0_ok ?_
  intro p r h
  split at h
  · rename_i q f hq
    cases h
    show PCF _ _ [nV p.1, _, _] _
    rw [hq]
    exact rSame q f p.2.1 p.2.2.1
  · cases h
theorem J1_same (p : List UInt8) (f : Bool) (a c : UInt8) : J1 114 [nP p f, .int .u8 a.toNat, .int .u8 c.toNat] = some (.rd true (.bool (sameB f a c))) :=
  Tab.addO_self _ _ (.cons .nfa (.cons .u8 (.cons .u8 .nil))) _ (some (p, f), a, c, ())

theorem rStep (p : List UInt8) (f : Bool) (hl : p.length ≤ 100000) (l : List Int) (hll : l.length ≤ 1000000) (c : UInt8) : PCF Try.prog 63 [nP p f, encI.S l, .int .u8 c.toNat] (encI.S (lst (p.length + 1) (stepS (sameB f) p (ofS l) c))) := by
  refine pcf_e hmG J1_ok comp63 (by decide) (by simp) (nidL_ok (by simp only [nidL, Enc.S_nid, nP_nid, nid_int, Bool.and_self])) ?_
  have hc1 : ((p.length : Int) + 1) = ((p.length + 1 : Nat) : Int) := rfl
  have hfz : ∀ hp, frz hp (nP p f) = some (nP p f) := fun _ => rfl
  refine vcE.step (by simp only [exC, exOps, exOp, evE, evsE, putE, wantedE, Nat.reduceEqDiff, ↓reduceIte, ROp.run, same, binA, intA, strA, eqA, indexSA, byteA, unA, bounds3, Option.map_some, Option.map_none, dec_true, dec_false, Int.toNat_natCast, Int.natCast_nonneg, beq_self_eq_true, List.append_nil, beq_iff_eq, reduceCtorEq, List.getD_cons_zero, List.getD_cons_succ, loadA, rowA, pickA, bslA, storeA_eq, decide_true, flatA, List.length_cons, List.length_nil, Nat.reduceAdd, List.flatMap_cons, List.flatMap_nil, BEq.rfl, List.cons_append, List.nil_append, if_pos, if_neg, ordered, List.getElem?_cons_zero, List.getElem?_cons_succ, frzL, nidL, frz_func, frz_agg, frz_tup, frz_iface, fresh_func, fresh_agg, fresh_tup, fresh_iface, frz_ptr, frz_sl, fresh_sl, Cls.isFree, Cls.makes, callCls, chain, cond_true, tz, ty]; rfl) (vcE.step (by simp (disch := omega) only [exC, exOps, exOp, evE, evsE, putE, wantedE, Nat.reduceEqDiff, ↓reduceIte, ROp.run, same, binA, intA, strA, eqA, indexSA, byteA, unA, bounds3, Option.map_some, Option.map_none, dec_true, dec_false, Int.toNat_natCast, Int.natCast_nonneg, beq_self_eq_true, List.append_nil, beq_iff_eq, reduceCtorEq, List.getD_cons_zero, List.getD_cons_succ, loadA, rowA, pickA, bslA, storeA_eq, decide_true, flatA, List.length_cons, List.length_nil, Nat.reduceAdd, List.flatMap_cons, List.flatMap_nil, BEq.rfl, List.cons_append, List.nil_append, if_pos, if_neg, ordered, List.getElem?_cons_zero, List.getElem?_cons_succ, frzL, nidL, frz_func, frz_agg, frz_tup, frz_iface, fresh_func, fresh_agg, fresh_tup, fresh_iface, frz_ptr, frz_sl, fresh_sl, Cls.isFree, Cls.makes, callCls, chain, cond_true, tz, ty, faddrA, allocA, over, List.take_succ_cons, List.take_zero, List.drop_succ_cons, List.drop_zero, List.drop_nil, List.set_cons_zero, List.set_cons_succ, Nat.reduceLeDiff, and_self, nP, nilchkA, hc1, make_row]; rfl) (vcE.then (fun e tm hp => e = .normal ∧ tm 0 = nP p f ∧ tm 7 = .sl 0 0 (p.length + 1) 1 (p.length + 1) true ∧ hp = [rowBlk (p.length + 1) (leads (sameB f) p (ofS l) c)]) ?_ ?_))
  · refine vcE.step (by simp only [exC, exOps, exOp, evE, evsE, putE, wantedE, Nat.reduceEqDiff, ↓reduceIte, ROp.run, same, binA, intA, strA, eqA, indexSA, byteA, unA, bounds3, Option.map_some, Option.map_none, dec_true, dec_false, Int.toNat_natCast, Int.natCast_nonneg, beq_self_eq_true, List.append_nil, beq_iff_eq, reduceCtorEq, List.getD_cons_zero, List.getD_cons_succ, loadA, rowA, pickA, bslA, storeA_eq, decide_true, flatA, List.length_cons, List.length_nil, Nat.reduceAdd, List.flatMap_cons, List.flatMap_nil, BEq.rfl, List.cons_append, List.nil_append, if_pos, if_neg, ordered, List.getElem?_cons_zero, List.getElem?_cons_succ, frzL, nidL, frz_func, frz_agg, frz_tup, frz_iface, fresh_func, fresh_agg, fresh_tup, fresh_iface, frz_ptr, frz_sl, fresh_sl, Cls.isFree, Cls.makes, callCls, chain, cond_true, tz, ty]; rfl) (vcE.block (vcE.count (by intro l tm hp h; simp at h)
      (fun i tm hp => tm 0 = nP p f ∧ tm 1 = encI.S l ∧ tm 2 = .int .u8 c.toNat ∧ tm 7 = .sl 0 0 (p.length + 1) 1 (p.length + 1) true ∧ tm 8 = .int .i64 i ∧ hp = [rowBlk (p.length + 1) (leadTo (sameB f) p c (l.take i))]) l.length ⟨?_, ?_, ?_, ?_, ?_, ?_⟩ ?_ ?_))
    · rfl
    · rfl
    · rfl
    · rfl
    · rfl
    · exact congrArg (fun b => [b]) (rowBlk_congr fun j _ => by cases j <;> simp [leadTo, leads, ofS])
    · rintro i tm hp hi ⟨e0, e1, e2, e7, e8, rfl⟩
      obtain ⟨v, hv⟩ : ∃ v, l[i]? = some v := ⟨_, List.getElem?_eq_getElem hi⟩
      have hia := encI_iaddr hi (k := .i64)
      have hp1 := encI.pick1 (l := l) rfl hv (v := .int .i64 v) rfl rfl
      have htk : l.take (i + 1) = l.take i ++ [v] := by rw [List.take_add_one, hv]; rfl
      have out : (v < 0 ∨ (p.length : Int) ≤ v) → [rowBlk (p.length + 1) (leadTo (sameB f) p c (l.take i))] = [rowBlk (p.length + 1) (leadTo (sameB f) p c (l.take (i + 1)))] := fun h =>
        congrArg (fun b => [b]) (rowBlk_congr fun j hj => by rw [htk, leadTo_out h hj])
      have fin : ∀ tm' : Env, tm' 0 = nP p f → tm' 1 = encI.S l → tm' 2 = .int .u8 c.toNat → tm' 7 = .sl 0 0 (p.length + 1) 1 (p.length + 1) true → tm' 8 = .int .i64 ((i + 1 : Nat) : Int) → ∀ hp', hp' = [rowBlk (p.length + 1) (leadTo (sameB f) p c (l.take (i + 1)))] → tm' 0 = nP p f ∧ tm' 1 = encI.S l ∧ tm' 2 = .int .u8 c.toNat ∧ tm' 7 = .sl 0 0 (p.length + 1) 1 (p.length + 1) true ∧ tm' 8 = .int .i64 ((i + 1 : Nat) : Int) ∧ hp' = [rowBlk (p.length + 1) (leadTo (sameB f) p c (l.take (i + 1)))] := fun tm' a b c d e hp' g => ⟨a, b, c, d, e, g⟩
      by_cases hv0 : v < 0
      · refine vcE.ex (by simp (disch := omega) only [exC, exOps, exOp, evE, evsE, putE, wantedE, Nat.reduceEqDiff, ↓reduceIte, ROp.run, same, binA, intA, strA, eqA, indexSA, byteA, unA, bounds3, Option.map_some, Option.map_none, dec_true, dec_false, Int.toNat_natCast, Int.natCast_nonneg, beq_self_eq_true, List.append_nil, beq_iff_eq, reduceCtorEq, List.getD_cons_zero, List.getD_cons_succ, loadA, rowA, pickA, bslA, storeA_eq, decide_true, flatA, List.length_cons, List.length_nil, Nat.reduceAdd, List.flatMap_cons, List.flatMap_nil, BEq.rfl, List.cons_append, List.nil_append, if_pos, if_neg, ordered, List.getElem?_cons_zero, List.getElem?_cons_succ, frzL, nidL, frz_func, frz_agg, frz_tup, frz_iface, fresh_func, fresh_agg, fresh_tup, fresh_iface, frz_ptr, frz_sl, fresh_sl, Cls.isFree, Cls.makes, callCls, chain, cond_true, tz, ty, faddrA, allocA, over, List.take_succ_cons, List.take_zero, List.drop_succ_cons, List.drop_zero, List.drop_nil, List.set_cons_zero, List.set_cons_succ, Nat.reduceLeDiff, and_self, e0, e1, e2, e7, e8, hia, ↓hp1, Enc.S_len]; rfl) ?_
        refine fin _ ?_ ?_ ?_ ?_ ?_ _ (out (.inl hv0))
        all_goals simp only [upd_app, Nat.reduceEqDiff, ↓reduceIte, e0, e1, e2, e7]
        all_goals rfl
      · by_cases hvl : (p.length : Int) ≤ v
        · refine vcE.ex (by simp (disch := omega) only [exC, exOps, exOp, evE, evsE, putE, wantedE, Nat.reduceEqDiff, ↓reduceIte, ROp.run, same, binA, intA, strA, eqA, indexSA, byteA, unA, bounds3, Option.map_some, Option.map_none, dec_true, dec_false, Int.toNat_natCast, Int.natCast_nonneg, beq_self_eq_true, List.append_nil, beq_iff_eq, reduceCtorEq, List.getD_cons_zero, List.getD_cons_succ, loadA, rowA, pickA, bslA, storeA_eq, decide_true, flatA, List.length_cons, List.length_nil, Nat.reduceAdd, List.flatMap_cons, List.flatMap_nil, BEq.rfl, List.cons_append, List.nil_append, if_pos, if_neg, ordered, List.getElem?_cons_zero, List.getElem?_cons_succ, frzL, nidL, frz_func, frz_agg, frz_tup, frz_iface, fresh_func, fresh_agg, fresh_tup, fresh_iface, frz_ptr, frz_sl, fresh_sl, Cls.isFree, Cls.makes, callCls, chain, cond_true, tz, ty, faddrA, allocA, over, List.take_succ_cons, List.take_zero, List.drop_succ_cons, List.drop_zero, List.drop_nil, List.set_cons_zero, List.set_cons_succ, Nat.reduceLeDiff, and_self, e0, e1, e2, e7, e8, hia, ↓hp1, Enc.S_len, nP, nilchkA]; rfl) ?_
          refine fin _ ?_ ?_ ?_ ?_ ?_ _ (out (.inr hvl))
          all_goals simp only [upd_app, Nat.reduceEqDiff, ↓reduceIte, e0, e1, e2, e7, nP]
          all_goals rfl
        · obtain ⟨k, rfl⟩ : ∃ k : Nat, v = k := ⟨v.toNat, by omega⟩
          have hk : k < p.length := by omega
          obtain ⟨a, ha⟩ : ∃ a, p[k]? = some a := ⟨_, List.getElem?_eq_getElem hk⟩
          have hsn := leadTo_snoc (s := sameB f) (c := c) (l := l.take i) ha
          have hsm := J1_same p f a c
          have hk1 : ((k : Int) + 1) = ((k + 1 : Nat) : Int) := rfl
          by_cases h42 : a.toNat = 42
          · have h42' : a = 42 := UInt8.toNat_inj.1 h42
            have hst := rowBlk_store (hp := [rowBlk (p.length + 1) (leadTo (sameB f) p c (l.take i))]) (id := 0) (N := p.length + 1) (i := k) rfl (by omega)
            refine vcE.ex (by simp (disch := omega) only [exC, exOps, exOp, evE, evsE, putE, wantedE, Nat.reduceEqDiff, ↓reduceIte, ROp.run, same, binA, intA, strA, eqA, indexSA, byteA, unA, bounds3, Option.map_some, Option.map_none, dec_true, dec_false, Int.toNat_natCast, Int.natCast_nonneg, beq_self_eq_true, List.append_nil, beq_iff_eq, reduceCtorEq, List.getD_cons_zero, List.getD_cons_succ, loadA, rowA, pickA, bslA, storeA_eq, decide_true, flatA, List.length_cons, List.length_nil, Nat.reduceAdd, List.flatMap_cons, List.flatMap_nil, BEq.rfl, List.cons_append, List.nil_append, if_pos, if_neg, ordered, List.getElem?_cons_zero, List.getElem?_cons_succ, frzL, nidL, frz_func, frz_agg, frz_tup, frz_iface, fresh_func, fresh_agg, fresh_tup, fresh_iface, frz_ptr, frz_sl, fresh_sl, Cls.isFree, Cls.makes, callCls, chain, cond_true, tz, ty, faddrA, allocA, over, List.take_succ_cons, List.take_zero, List.drop_succ_cons, List.drop_zero, List.drop_nil, List.set_cons_zero, List.set_cons_succ, Nat.reduceLeDiff, and_self, e0, e1, e2, e7, e8, hia, ↓hp1, Enc.S_len, nP, nilchkA, ha, h42, iaddr_sl1, ↓hst]; rfl) ?_
            refine fin _ ?_ ?_ ?_ ?_ ?_ _ (congrArg (fun b => [b]) (rowBlk_congr fun j hj => ?_))
            all_goals try simp only [upd_app, Nat.reduceEqDiff, ↓reduceIte, e0, e1, e2, e7, nP]
            all_goals try rfl
            rw [htk, hsn j, if_pos h42']
          · have h42' : a ≠ 42 := fun e => h42 (by rw [e]; rfl)
            have hst := rowBlk_store (hp := [rowBlk (p.length + 1) (leadTo (sameB f) p c (l.take i))]) (id := 0) (N := p.length + 1) (i := k + 1) rfl (by omega)
            have h1 : (a == 42) = false := by simpa using h42'
            by_cases h63 : a.toNat = 63
            · have htake : takes (sameB f) p k c = true := by
                have h63' : a = 63 := UInt8.toNat_inj.1 h63
                simp [takes, ha, h63']
              refine vcE.ex (by simp (disch := omega) only [exC, exOps, exOp, evE, evsE, putE, wantedE, Nat.reduceEqDiff, ↓reduceIte, ROp.run, same, binA, intA, strA, eqA, indexSA, byteA, unA, bounds3, Option.map_some, Option.map_none, dec_true, dec_false, Int.toNat_natCast, Int.natCast_nonneg, beq_self_eq_true, List.append_nil, beq_iff_eq, reduceCtorEq, List.getD_cons_zero, List.getD_cons_succ, loadA, rowA, pickA, bslA, storeA_eq, decide_true, flatA, List.length_cons, List.length_nil, Nat.reduceAdd, List.flatMap_cons, List.flatMap_nil, BEq.rfl, List.cons_append, List.nil_append, if_pos, if_neg, ordered, List.getElem?_cons_zero, List.getElem?_cons_succ, frzL, nidL, frz_func, frz_agg, frz_tup, frz_iface, fresh_func, fresh_agg, fresh_tup, fresh_iface, frz_ptr, frz_sl, fresh_sl, Cls.isFree, Cls.makes, callCls, chain, cond_true, tz, ty, faddrA, allocA, over, List.take_succ_cons, List.take_zero, List.drop_succ_cons, List.drop_zero, List.drop_nil, List.set_cons_zero, List.set_cons_succ, Nat.reduceLeDiff, and_self, e0, e1, e2, e7, e8, hia, ↓hp1, Enc.S_len, nP, nilchkA, ha, h63, hk1, iaddr_sl1, ↓hst]; rfl) ?_
              refine fin _ ?_ ?_ ?_ ?_ ?_ _ (congrArg (fun b => [b]) (rowBlk_congr fun j hj => ?_))
              all_goals try simp only [upd_app, Nat.reduceEqDiff, ↓reduceIte, e0, e1, e2, e7, nP]
              all_goals try rfl
              rw [htk, hsn j, if_neg h42', htake, Bool.true_and]
            · have h63' : a ≠ 63 := fun e => h63 (by rw [e]; rfl)
              have h2 : (a == 63) = false := by simpa using h63'
              have htake : takes (sameB f) p k c = sameB f a c := by
                simp only [takes, ha, bne, h1, h2, Bool.not_false, Bool.true_and, Bool.false_or]
              simp only [nP] at hsm
              cases hs : sameB f a c
              · rw [hs] at hsm htake
                refine vcE.ex (by simp (disch := omega) only [exC, exOps, exOp, evE, evsE, putE, wantedE, Nat.reduceEqDiff, ↓reduceIte, ROp.run, same, binA, intA, strA, eqA, indexSA, byteA, unA, bounds3, Option.map_some, Option.map_none, dec_true, dec_false, Int.toNat_natCast, Int.natCast_nonneg, beq_self_eq_true, List.append_nil, beq_iff_eq, reduceCtorEq, List.getD_cons_zero, List.getD_cons_succ, loadA, rowA, pickA, bslA, storeA_eq, decide_true, flatA, List.length_cons, List.length_nil, Nat.reduceAdd, List.flatMap_cons, List.flatMap_nil, BEq.rfl, List.cons_append, List.nil_append, if_pos, if_neg, ordered, List.getElem?_cons_zero, List.getElem?_cons_succ, frzL, nidL, frz_func, frz_agg, frz_tup, frz_iface, fresh_func, fresh_agg, fresh_tup, fresh_iface, frz_ptr, frz_sl, fresh_sl, Cls.isFree, Cls.makes, callCls, chain, cond_true, tz, ty, faddrA, allocA, over, List.take_succ_cons, List.take_zero, List.drop_succ_cons, List.drop_zero, List.drop_nil, List.set_cons_zero, List.set_cons_succ, Nat.reduceLeDiff, and_self, e0, e1, e2, e7, e8, hia, ↓hp1, Enc.S_len, nP, nilchkA, ha, hsm]; rfl) ?_
                refine fin _ ?_ ?_ ?_ ?_ ?_ _ (congrArg (fun b => [b]) (rowBlk_congr fun j hj => ?_))
                all_goals try simp only [upd_app, Nat.reduceEqDiff, ↓reduceIte, e0, e1, e2, e7, nP]
                all_goals try rfl
                rw [htk, hsn j, if_neg h42', htake, Bool.false_and, Bool.or_false]
              · rw [hs] at hsm htake
                refine vcE.ex (by simp (disch := omega) only [exC, exOps, exOp, evE, evsE, putE, wantedE, Nat.reduceEqDiff, ↓reduceIte, ROp.run, same, binA, intA, strA, eqA, indexSA, byteA, unA, bounds3, Option.map_some, Option.map_none, dec_true, dec_false, Int.toNat_natCast, Int.natCast_nonneg, beq_self_eq_true, List.append_nil, beq_iff_eq, reduceCtorEq, List.getD_cons_zero, List.getD_cons_succ, loadA, rowA, pickA, bslA, storeA_eq, decide_true, flatA, List.length_cons, List.length_nil, Nat.reduceAdd, List.flatMap_cons, List.flatMap_nil, BEq.rfl, List.cons_append, List.nil_append, if_pos, if_neg, ordered, List.getElem?_cons_zero, List.getElem?_cons_succ, frzL, nidL, frz_func, frz_agg, frz_tup, frz_iface, fresh_func, fresh_agg, fresh_tup, fresh_iface, frz_ptr, frz_sl, fresh_sl, Cls.isFree, Cls.makes, callCls, chain, cond_true, tz, ty, faddrA, allocA, over, List.take_succ_cons, List.take_zero, List.drop_succ_cons, List.drop_zero, List.drop_nil, List.set_cons_zero, List.set_cons_succ, Nat.reduceLeDiff, and_self, e0, e1, e2, e7, e8, hia, ↓hp1, Enc.S_len, nP, nilchkA, ha, hsm, hk1, iaddr_sl1, ↓hst]; rfl) ?_
                refine fin _ ?_ ?_ ?_ ?_ ?_ _ (congrArg (fun b => [b]) (rowBlk_congr fun j hj => ?_))
                all_goals try simp only [upd_app, Nat.reduceEqDiff, ↓reduceIte, e0, e1, e2, e7, nP]
                all_goals try rfl
                rw [htk, hsn j, if_neg h42', htake, Bool.true_and]
    · rintro tm hp ⟨e0, e1, e2, e7, e8, rfl⟩
      refine vcE.ex (by simp (disch := omega) only [exC, exOps, exOp, evE, evsE, putE, wantedE, Nat.reduceEqDiff, ↓reduceIte, ROp.run, same, binA, intA, strA, eqA, indexSA, byteA, unA, bounds3, Option.map_some, Option.map_none, dec_true, dec_false, Int.toNat_natCast, Int.natCast_nonneg, beq_self_eq_true, List.append_nil, beq_iff_eq, reduceCtorEq, List.getD_cons_zero, List.getD_cons_succ, loadA, rowA, pickA, bslA, storeA_eq, decide_true, flatA, List.length_cons, List.length_nil, Nat.reduceAdd, List.flatMap_cons, List.flatMap_nil, BEq.rfl, List.cons_append, List.nil_append, if_pos, if_neg, ordered, List.getElem?_cons_zero, List.getElem?_cons_succ, frzL, nidL, frz_func, frz_agg, frz_tup, frz_iface, fresh_func, fresh_agg, fresh_tup, fresh_iface, frz_ptr, frz_sl, fresh_sl, Cls.isFree, Cls.makes, callCls, chain, cond_true, tz, ty, faddrA, allocA, over, List.take_succ_cons, List.take_zero, List.drop_succ_cons, List.drop_zero, List.drop_nil, List.set_cons_zero, List.set_cons_succ, Nat.reduceLeDiff, and_self, e1, e8, Enc.S_len]; rfl) ?_
      refine ⟨rfl, ?_, ?_, ?_⟩
      · simp only [upd_app, Nat.reduceEqDiff, ↓reduceIte, e0]
      · simp only [upd_app, Nat.reduceEqDiff, ↓reduceIte, e7]
      · rw [List.take_length]
        rfl
  · rintro e tm hp ⟨rfl, e0, e7, rfl⟩
    refine vcE.seq ?_
    rw [show r63_11 = r63_11.take 2 ++ ((r63_11.drop 2).take 1 ++ r63_11.drop 3) from rfl]
    refine vcE.app (vcE.ex (by simp (disch := omega) only [exC, exOps, exOp, evE, evsE, putE, wantedE, Nat.reduceEqDiff, ↓reduceIte, ROp.run, same, binA, intA, strA, eqA, indexSA, byteA, unA, bounds3, Option.map_some, Option.map_none, dec_true, dec_false, Int.toNat_natCast, Int.natCast_nonneg, beq_self_eq_true, List.append_nil, beq_iff_eq, reduceCtorEq, List.getD_cons_zero, List.getD_cons_succ, loadA, rowA, pickA, bslA, storeA_eq, decide_true, flatA, List.length_cons, List.length_nil, Nat.reduceAdd, List.flatMap_cons, List.flatMap_nil, BEq.rfl, List.cons_append, List.nil_append, if_pos, if_neg, ordered, List.getElem?_cons_zero, List.getElem?_cons_succ, frzL, nidL, frz_func, frz_agg, frz_tup, frz_iface, fresh_func, fresh_agg, fresh_tup, fresh_iface, frz_ptr, frz_sl, fresh_sl, Cls.isFree, Cls.makes, callCls, chain, cond_true, tz, ty, faddrA, allocA, over, List.take_succ_cons, List.take_zero, List.drop_succ_cons, List.drop_zero, List.drop_nil, List.set_cons_zero, List.set_cons_succ, Nat.reduceLeDiff, and_self, e0, e7]; rfl) ⟨rfl, vcE.app (vcE.call (f := 113) (caps := []) (ys := [nP p f, .sl 0 0 (p.length + 1) 1 (p.length + 1) true]) rfl rfl (rOn p f hl (hp := [rowBlk (p.length + 1) (leads (sameB f) p (ofS l) c)]) (id := 0) rfl) ?_)⟩)
    rintro r hp' ⟨oid, rfl, hb⟩
    refine ⟨rfl, vcE.ex (by simp (disch := omega) only [exC, exOps, exOp, evE, evsE, putE, wantedE, Nat.reduceEqDiff, ↓reduceIte, ROp.run, same, binA, intA, strA, eqA, indexSA, byteA, unA, bounds3, Option.map_some, Option.map_none, dec_true, dec_false, Int.toNat_natCast, Int.natCast_nonneg, beq_self_eq_true, List.append_nil, beq_iff_eq, reduceCtorEq, List.getD_cons_zero, List.getD_cons_succ, loadA, rowA, pickA, bslA, storeA_eq, decide_true, flatA, List.length_cons, List.length_nil, Nat.reduceAdd, List.flatMap_cons, List.flatMap_nil, BEq.rfl, List.cons_append, List.nil_append, if_pos, if_neg, ordered, List.getElem?_cons_zero, List.getElem?_cons_succ, frzL, nidL, frz_func, frz_agg, frz_tup, frz_iface, fresh_func, fresh_agg, fresh_tup, fresh_iface, frz_ptr, frz_sl, fresh_sl, Cls.isFree, Cls.makes, callCls, chain, cond_true, tz, ty, faddrA, allocA, over, List.take_succ_cons, List.take_zero, List.drop_succ_cons, List.drop_zero, List.drop_nil, List.set_cons_zero, List.set_cons_succ, Nat.reduceLeDiff, and_self]; rfl) ?_⟩
    refine vcE.ex (by simp only [exC, exOps, exOp, evE, evsE, putE, wantedE, Nat.reduceEqDiff, ↓reduceIte, ROp.run, same, binA, intA, strA, eqA, indexSA, byteA, unA, bounds3, Option.map_some, Option.map_none, dec_true, dec_false, Int.toNat_natCast, Int.natCast_nonneg, beq_self_eq_true, List.append_nil, beq_iff_eq, reduceCtorEq, List.getD_cons_zero, List.getD_cons_succ, loadA, rowA, pickA, bslA, storeA_eq, decide_true, flatA, List.length_cons, List.length_nil, Nat.reduceAdd, List.flatMap_cons, List.flatMap_nil, BEq.rfl, List.cons_append, List.nil_append, if_pos, if_neg, ordered, List.getElem?_cons_zero, List.getElem?_cons_succ, frzL, nidL, frz_func, frz_agg, frz_tup, frz_iface, fresh_func, fresh_agg, fresh_tup, fresh_iface, frz_ptr, frz_sl, fresh_sl, Cls.isFree, Cls.makes, callCls, chain, cond_true, tz, ty]; rfl) ?_
    exact ⟨_, rfl, hb.fresh⟩

theorem rAccepts (p : List UInt8) (f : Bool) (hl : p.length ≤ 1000000) (l : List Int) (hll : l.length ≤ 1000000) : PCF Try.prog 64 [nP p f, encI.S l] (.bool (ofS l p.length)) := by
  refine pcf_e hmG (TabOk.none _) comp64 (by decide) (by simp) (nidL_ok (by simp only [nidL, Enc.S_nid, nP_nid, Bool.and_self])) ?_
  refine vcE.step (by simp only [exC, exOps, exOp, evE, evsE, putE, wantedE, Nat.reduceEqDiff, ↓reduceIte, ROp.run, same, binA, intA, strA, eqA, indexSA, byteA, unA, bounds3, Option.map_some, Option.map_none, dec_true, dec_false, Int.toNat_natCast, Int.natCast_nonneg, beq_self_eq_true, List.append_nil, beq_iff_eq, reduceCtorEq, List.getD_cons_zero, List.getD_cons_succ, loadA, rowA, pickA, bslA, storeA_eq, decide_true, flatA, List.length_cons, List.length_nil, Nat.reduceAdd, List.flatMap_cons, List.flatMap_nil, BEq.rfl, List.cons_append, List.nil_append, if_pos, if_neg, ordered, List.getElem?_cons_zero, List.getElem?_cons_succ, frzL, nidL, frz_func, frz_agg, frz_tup, frz_iface, fresh_func, fresh_agg, fresh_tup, fresh_iface, frz_ptr, frz_sl, fresh_sl, Cls.isFree, Cls.makes, callCls, chain, cond_true, tz, ty]; rfl) (vcE.then (fun e tm hp => (e = .normal ∧ ofS l p.length = false) ∨ (e = .ret ∧ tm 4 = .bool true ∧ ofS l p.length = true)) ?_ ?_)
  · refine vcE.step (by simp only [exC, exOps, exOp, evE, evsE, putE, wantedE, Nat.reduceEqDiff, ↓reduceIte, ROp.run, same, binA, intA, strA, eqA, indexSA, byteA, unA, bounds3, Option.map_some, Option.map_none, dec_true, dec_false, Int.toNat_natCast, Int.natCast_nonneg, beq_self_eq_true, List.append_nil, beq_iff_eq, reduceCtorEq, List.getD_cons_zero, List.getD_cons_succ, loadA, rowA, pickA, bslA, storeA_eq, decide_true, flatA, List.length_cons, List.length_nil, Nat.reduceAdd, List.flatMap_cons, List.flatMap_nil, BEq.rfl, List.cons_append, List.nil_append, if_pos, if_neg, ordered, List.getElem?_cons_zero, List.getElem?_cons_succ, frzL, nidL, frz_func, frz_agg, frz_tup, frz_iface, fresh_func, fresh_agg, fresh_tup, fresh_iface, frz_ptr, frz_sl, fresh_sl, Cls.isFree, Cls.makes, callCls, chain, cond_true, tz, ty]; rfl) (vcE.block (vcE.count (by intro l tm hp h; simp at h)
      (fun i tm hp => tm 0 = nP p f ∧ tm 1 = encI.S l ∧ tm 5 = .int .i64 i ∧ ofS (l.take i) p.length = false) l.length ⟨?_, ?_, ?_, ?_⟩ ?_ ?_))
    · rfl
    · rfl
    · rfl
    · simp [ofS]
    · rintro i tm hp hi ⟨e0, e1, e5, hn⟩
      obtain ⟨v, hv⟩ : ∃ v, l[i]? = some v := ⟨_, List.getElem?_eq_getElem hi⟩
      have hia := encI_iaddr hi (k := .i64)
      have hp1 := encI.pick1 (l := l) rfl hv (v := .int .i64 v) rfl rfl
      have htk : l.take (i + 1) = l.take i ++ [v] := by rw [List.take_add_one, hv]; rfl
      by_cases hvl : v = p.length
      · refine vcE.ex (by simp (disch := first | assumption | omega) only [exC, exOps, exOp, evE, evsE, putE, wantedE, Nat.reduceEqDiff, ↓reduceIte, ROp.run, same, binA, intA, strA, eqA, indexSA, byteA, unA, bounds3, Option.map_some, Option.map_none, dec_true, dec_false, Int.toNat_natCast, Int.natCast_nonneg, beq_self_eq_true, List.append_nil, beq_iff_eq, reduceCtorEq, List.getD_cons_zero, List.getD_cons_succ, loadA, rowA, pickA, bslA, storeA_eq, decide_true, flatA, List.length_cons, List.length_nil, Nat.reduceAdd, List.flatMap_cons, List.flatMap_nil, BEq.rfl, List.cons_append, List.nil_append, if_pos, if_neg, ordered, List.getElem?_cons_zero, List.getElem?_cons_succ, frzL, nidL, frz_func, frz_agg, frz_tup, frz_iface, fresh_func, fresh_agg, fresh_tup, fresh_iface, frz_ptr, frz_sl, fresh_sl, Cls.isFree, Cls.makes, callCls, chain, cond_true, tz, ty, faddrA, allocA, over, List.take_succ_cons, List.take_zero, List.drop_succ_cons, List.drop_zero, List.drop_nil, List.set_cons_zero, List.set_cons_succ, Nat.reduceLeDiff, and_self, e0, e1, e5, hia, ↓hp1, Enc.S_len, nP, nilchkA]; rfl) ?_
        refine .inr ⟨rfl, ?_, ?_⟩
        · simp only [upd_app, Nat.reduceEqDiff, ↓reduceIte]
        · simp only [ofS, decide_eq_true_eq]
          rw [← hvl]
          exact List.mem_of_getElem? hv
      · refine vcE.ex (by simp (disch := first | assumption | omega) only [exC, exOps, exOp, evE, evsE, putE, wantedE, Nat.reduceEqDiff, ↓reduceIte, ROp.run, same, binA, intA, strA, eqA, indexSA, byteA, unA, bounds3, Option.map_some, Option.map_none, dec_true, dec_false, Int.toNat_natCast, Int.natCast_nonneg, beq_self_eq_true, List.append_nil, beq_iff_eq, reduceCtorEq, List.getD_cons_zero, List.getD_cons_succ, loadA, rowA, pickA, bslA, storeA_eq, decide_true, flatA, List.length_cons, List.length_nil, Nat.reduceAdd, List.flatMap_cons, List.flatMap_nil, BEq.rfl, List.cons_append, List.nil_append, if_pos, if_neg, ordered, List.getElem?_cons_zero, List.getElem?_cons_succ, frzL, nidL, frz_func, frz_agg, frz_tup, frz_iface, fresh_func, fresh_agg, fresh_tup, fresh_iface, frz_ptr, frz_sl, fresh_sl, Cls.isFree, Cls.makes, callCls, chain, cond_true, tz, ty, faddrA, allocA, over, List.take_succ_cons, List.take_zero, List.drop_succ_cons, List.drop_zero, List.drop_nil, List.set_cons_zero, List.set_cons_succ, Nat.reduceLeDiff, and_self, e0, e1, e5, hia, ↓hp1, Enc.S_len, nP, nilchkA]; rfl) ?_
        refine ⟨?_, ?_, ?_, ?_⟩
        · simp only [upd_app, Nat.reduceEqDiff, ↓reduceIte, e0, nP]
        · simp only [upd_app, Nat.reduceEqDiff, ↓reduceIte, e1]
        · simp only [upd_app, Nat.reduceEqDiff, ↓reduceIte]; rfl
        · rw [htk]
          simp only [ofS, decide_eq_false_iff_not, List.mem_append, List.mem_singleton] at hn ⊢
          rintro (h | h)
          · exact hn h
          · exact hvl h.symm
    · rintro tm hp ⟨e0, e1, e5, hn⟩
      refine vcE.ex (by simp (disch := omega) only [exC, exOps, exOp, evE, evsE, putE, wantedE, Nat.reduceEqDiff, ↓reduceIte, ROp.run, same, binA, intA, strA, eqA, indexSA, byteA, unA, bounds3, Option.map_some, Option.map_none, dec_true, dec_false, Int.toNat_natCast, Int.natCast_nonneg, beq_self_eq_true, List.append_nil, beq_iff_eq, reduceCtorEq, List.getD_cons_zero, List.getD_cons_succ, loadA, rowA, pickA, bslA, storeA_eq, decide_true, flatA, List.length_cons, List.length_nil, Nat.reduceAdd, List.flatMap_cons, List.flatMap_nil, BEq.rfl, List.cons_append, List.nil_append, if_pos, if_neg, ordered, List.getElem?_cons_zero, List.getElem?_cons_succ, frzL, nidL, frz_func, frz_agg, frz_tup, frz_iface, fresh_func, fresh_agg, fresh_tup, fresh_iface, frz_ptr, frz_sl, fresh_sl, Cls.isFree, Cls.makes, callCls, chain, cond_true, tz, ty, faddrA, allocA, over, List.take_succ_cons, List.take_zero, List.drop_succ_cons, List.drop_zero, List.drop_nil, List.set_cons_zero, List.set_cons_succ, Nat.reduceLeDiff, and_self, e1, e5, Enc.S_len]; rfl) ?_
      rw [List.take_length] at hn
      exact .inl ⟨rfl, hn⟩
  · rintro e tm hp (⟨rfl, h⟩ | ⟨rfl, h4, h⟩)
    · refine vcE.ex (by simp only [exC, exOps, exOp, evE, evsE, putE, wantedE, Nat.reduceEqDiff, ↓reduceIte, ROp.run, same, binA, intA, strA, eqA, indexSA, byteA, unA, bounds3, Option.map_some, Option.map_none, dec_true, dec_false, Int.toNat_natCast, Int.natCast_nonneg, beq_self_eq_true, List.append_nil, beq_iff_eq, reduceCtorEq, List.getD_cons_zero, List.getD_cons_succ, loadA, rowA, pickA, bslA, storeA_eq, decide_true, flatA, List.length_cons, List.length_nil, Nat.reduceAdd, List.flatMap_cons, List.flatMap_nil, BEq.rfl, List.cons_append, List.nil_append, if_pos, if_neg, ordered, List.getElem?_cons_zero, List.getElem?_cons_succ, frzL, nidL, frz_func, frz_agg, frz_tup, frz_iface, fresh_func, fresh_agg, fresh_tup, fresh_iface, frz_ptr, frz_sl, fresh_sl, Cls.isFree, Cls.makes, callCls, chain, cond_true, tz, ty]; rfl) ?_
      refine ⟨_, rfl, ?_⟩
      rw [h]
      rfl
    · refine ⟨_, rfl, ?_⟩
      rw [h4, h]
      rfl

def J2 : Tab := ((J1.addO 62 (.cons .nfa .nil) fun p => match p.1 with
  | some (q, f) => if q.length ≤ 100000 then some (.rd true (encI.S (lst (q.length + 1) (startS q)))) else none
  | none => none).addO 63 (.cons .nfa (.cons (.S encI) (.cons .u8 .nil))) fun p => match p.1 with
  | some (q, f) => if q.length ≤ 100000 ∧ p.2.1.length ≤ 1000000 then some (.rd true (encI.S (lst (q.length + 1) (stepS (sameB f) q (ofS p.2.1) p.2.2.1)))) else none
  | none => none).addO 64 (.cons .nfa (.cons (.S encI) .nil)) fun p => match p.1 with
  | some (q, f) => if q.length ≤ 100000 ∧ p.2.1.length ≤ 1000000 then some (.rd true (.bool (ofS p.2.1 q.length))) else none
  | none => none
theorem J2_ok : TabOk Try.prog J2 := by
  refine TabOk.addO (TabOk.addO (TabOk.addO J1_ok ?_) ?_) ?_
  · intro p r h
    split at h
    · rename_i q f hq
      split at h
      · rename_i hv
        cases h
        show PCF _ _ [nV p.1] _
        rw [hq]
        exact rStart q f hv
      · cases h
    · cases h
  · intro p r h
    split at h
    · rename_i q f hq
      split at h
      · rename_i hv
        cases h
        show PCF _ _ [nV p.1, _, _] _
        rw [hq]
        exact rStep q f hv.1 _ hv.2 _
      · cases h
    · cases h
  · intro p r h
    split at h
    · rename_i q f hq
      split at h
      · rename_i hv
        cases h
        show PCF _ _ [nV p.1, _] _
        rw [hq]
        exact rAccepts q f (by omega) _ hv.2
      · cases h
    · cases h
theorem J2_start (q : List UInt8) (f : Bool) (h : q.length ≤ 100000) : J2 62 [nP q f] = some (.rd true (encI.S (lst (q.length + 1) (startS q)))) := by
  rw [J2, Tab.addO_ne _ _ _ _ rfl, Tab.addO_ne _ _ _ _ rfl]
  refine (Tab.addO_self _ _ (.cons .nfa .nil) _ (some (q, f), ())).trans ?_
  exact if_pos h
theorem J2_step (q : List UInt8) (f : Bool) (l : List Int) (c : UInt8) (h : q.length ≤ 100000) (hl : l.length ≤ 1000000) : J2 63 [nP q f, encI.S l, .int .u8 c.toNat] = some (.rd true (encI.S (lst (q.length + 1) (stepS (sameB f) q (ofS l) c)))) := by
  rw [J2, Tab.addO_ne _ _ _ _ rfl]
  refine (Tab.addO_self _ _ (.cons .nfa (.cons (.S encI) (.cons .u8 .nil))) _ (some (q, f), l, c, ())).trans ?_
  exact if_pos ⟨h, hl⟩
theorem J2_acc (q : List UInt8) (f : Bool) (l : List Int) (h : q.length ≤ 100000) (hl : l.length ≤ 1000000) : J2 64 [nP q f, encI.S l] = some (.rd true (.bool (ofS l q.length))) := by
  refine (Tab.addO_self _ _ (.cons .nfa (.cons (.S encI) .nil)) _ (some (q, f), l, ())).trans ?_
  exact if_pos ⟨h, hl⟩

theorem rRun (p : List UInt8) (f : Bool) (hl : p.length ≤ 100000) (t : List UInt8) (ht : t.length ≤ 1000000) : PCF Try.prog 65 [nP p f, .str t] (.bool (runS (sameB f) p t (startS p) p.length)) := by
  refine pcf_e hmG J2_ok comp65 (by decide) (by simp) (nidL_ok rfl) ?_
  have h1 := J2_start p f hl
  have hfz : ∀ hp, frz hp (nP p f) = some (nP p f) := fun _ => rfl
  refine vcE.step (by simp only [exC, exOps, exOp, evE, evsE, putE, wantedE, Nat.reduceEqDiff, ↓reduceIte, ROp.run, same, binA, intA, strA, eqA, indexSA, byteA, unA, bounds3, Option.map_some, Option.map_none, dec_true, dec_false, Int.toNat_natCast, Int.natCast_nonneg, beq_self_eq_true, List.append_nil, beq_iff_eq, reduceCtorEq, List.getD_cons_zero, List.getD_cons_succ, loadA, rowA, pickA, bslA, storeA_eq, decide_true, flatA, List.length_cons, List.length_nil, Nat.reduceAdd, List.flatMap_cons, List.flatMap_nil, BEq.rfl, List.cons_append, List.nil_append, if_pos, if_neg, ordered, List.getElem?_cons_zero, List.getElem?_cons_succ, frzL, nidL, frz_func, frz_agg, frz_tup, frz_iface, fresh_func, fresh_agg, fresh_tup, fresh_iface, frz_ptr, frz_sl, fresh_sl, Cls.isFree, Cls.makes, callCls, chain, cond_true, tz, ty]; rfl) (vcE.step (by simp only [exC, exOps, exOp, evE, evsE, putE, wantedE, Nat.reduceEqDiff, ↓reduceIte, ROp.run, same, binA, intA, strA, eqA, indexSA, byteA, unA, bounds3, Option.map_some, Option.map_none, dec_true, dec_false, Int.toNat_natCast, Int.natCast_nonneg, beq_self_eq_true, List.append_nil, beq_iff_eq, reduceCtorEq, List.getD_cons_zero, List.getD_cons_succ, loadA, rowA, pickA, bslA, storeA_eq, decide_true, flatA, List.length_cons, List.length_nil, Nat.reduceAdd, List.flatMap_cons, List.flatMap_nil, BEq.rfl, List.cons_append, List.nil_append, if_pos, if_neg, ordered, List.getElem?_cons_zero, List.getElem?_cons_succ, frzL, nidL, frz_func, frz_agg, frz_tup, frz_iface, fresh_func, fresh_agg, fresh_tup, fresh_iface, frz_ptr, frz_sl, fresh_sl, Cls.isFree, Cls.makes, callCls, chain, cond_true, tz, ty, hfz, nP_nid, h1]; rfl) (vcE.then (fun e tm hp => e = .normal ∧ tm 0 = nP p f ∧ tm 5 = encI.S (lst (p.length + 1) (runS (sameB f) p t (startS p)))) ?_ ?_))
  · refine vcE.step (by simp only [exC, exOps, exOp, evE, evsE, putE, wantedE, Nat.reduceEqDiff, ↓reduceIte, ROp.run, same, binA, intA, strA, eqA, indexSA, byteA, unA, bounds3, Option.map_some, Option.map_none, dec_true, dec_false, Int.toNat_natCast, Int.natCast_nonneg, beq_self_eq_true, List.append_nil, beq_iff_eq, reduceCtorEq, List.getD_cons_zero, List.getD_cons_succ, loadA, rowA, pickA, bslA, storeA_eq, decide_true, flatA, List.length_cons, List.length_nil, Nat.reduceAdd, List.flatMap_cons, List.flatMap_nil, BEq.rfl, List.cons_append, List.nil_append, if_pos, if_neg, ordered, List.getElem?_cons_zero, List.getElem?_cons_succ, frzL, nidL, frz_func, frz_agg, frz_tup, frz_iface, fresh_func, fresh_agg, fresh_tup, fresh_iface, frz_ptr, frz_sl, fresh_sl, Cls.isFree, Cls.makes, callCls, chain, cond_true, tz, ty]; rfl) (vcE.block (vcE.count (by intro l tm hp h; simp at h)
      (fun i tm hp => tm 0 = nP p f ∧ tm 1 = .str t ∧ tm 6 = .int .i64 i ∧ tm 5 = encI.S (lst (p.length + 1) (runS (sameB f) p (t.take i) (startS p)))) t.length ⟨?_, ?_, ?_, ?_⟩ ?_ ?_))
    · rfl
    · rfl
    · rfl
    · rfl
    · rintro i tm hp hi ⟨e0, e1, e6, e5⟩
      obtain ⟨c, hc⟩ : ∃ c, t[i]? = some c := ⟨_, List.getElem?_eq_getElem hi⟩
      have htk : t.take (i + 1) = t.take i ++ [c] := by rw [List.take_add_one, hc]; rfl
      have hlen := lst_len (p.length + 1) (runS (sameB f) p (t.take i) (startS p))
      have h2 := J2_step p f (lst (p.length + 1) (runS (sameB f) p (t.take i) (startS p))) c hl (by omega)
      have h3 : lst (p.length + 1) (stepS (sameB f) p (ofS (lst (p.length + 1) (runS (sameB f) p (t.take i) (startS p)))) c) = lst (p.length + 1) (stepS (sameB f) p (runS (sameB f) p (t.take i) (startS p)) c) :=
        lst_congr fun j hj => stepS_congr fun i hi => ofS_lst (by omega)
      rw [h3] at h2
      refine vcE.ex (by simp (disch := omega) only [exC, exOps, exOp, evE, evsE, putE, wantedE, Nat.reduceEqDiff, ↓reduceIte, ROp.run, same, binA, intA, strA, eqA, indexSA, byteA, unA, bounds3, Option.map_some, Option.map_none, dec_true, dec_false, Int.toNat_natCast, Int.natCast_nonneg, beq_self_eq_true, List.append_nil, beq_iff_eq, reduceCtorEq, List.getD_cons_zero, List.getD_cons_succ, loadA, rowA, pickA, bslA, storeA_eq, decide_true, flatA, List.length_cons, List.length_nil, Nat.reduceAdd, List.flatMap_cons, List.flatMap_nil, BEq.rfl, List.cons_append, List.nil_append, if_pos, if_neg, ordered, List.getElem?_cons_zero, List.getElem?_cons_succ, frzL, nidL, frz_func, frz_agg, frz_tup, frz_iface, fresh_func, fresh_agg, fresh_tup, fresh_iface, frz_ptr, frz_sl, fresh_sl, Cls.isFree, Cls.makes, callCls, chain, cond_true, tz, ty, faddrA, allocA, over, List.take_succ_cons, List.take_zero, List.drop_succ_cons, List.drop_zero, List.drop_nil, List.set_cons_zero, List.set_cons_succ, Nat.reduceLeDiff, and_self, e0, e1, e5, e6, hc, hfz, nP_nid, h2, Enc.S_nid]; rfl) ?_
      refine ⟨?_, ?_, ?_, ?_⟩
      · simp only [upd_app, Nat.reduceEqDiff, ↓reduceIte, e0]
      · simp only [upd_app, Nat.reduceEqDiff, ↓reduceIte, e1]
      · simp only [upd_app, Nat.reduceEqDiff, ↓reduceIte]; rfl
      · simp only [upd_app, Nat.reduceEqDiff, ↓reduceIte]
        rw [htk, runS_snoc]
    · rintro tm hp ⟨e0, e1, e6, e5⟩
      refine vcE.ex (by simp (disch := omega) only [exC, exOps, exOp, evE, evsE, putE, wantedE, Nat.reduceEqDiff, ↓reduceIte, ROp.run, same, binA, intA, strA, eqA, indexSA, byteA, unA, bounds3, Option.map_some, Option.map_none, dec_true, dec_false, Int.toNat_natCast, Int.natCast_nonneg, beq_self_eq_true, List.append_nil, beq_iff_eq, reduceCtorEq, List.getD_cons_zero, List.getD_cons_succ, loadA, rowA, pickA, bslA, storeA_eq, decide_true, flatA, List.length_cons, List.length_nil, Nat.reduceAdd, List.flatMap_cons, List.flatMap_nil, BEq.rfl, List.cons_append, List.nil_append, if_pos, if_neg, ordered, List.getElem?_cons_zero, List.getElem?_cons_succ, frzL, nidL, frz_func, frz_agg, frz_tup, frz_iface, fresh_func, fresh_agg, fresh_tup, fresh_iface, frz_ptr, frz_sl, fresh_sl, Cls.isFree, Cls.makes, callCls, chain, cond_true, tz, ty, e1, e6]; rfl) ?_
      refine ⟨rfl, ?_, ?_⟩
      · simp only [upd_app, Nat.reduceEqDiff, ↓reduceIte, e0]
      · simp only [upd_app, Nat.reduceEqDiff, ↓reduceIte, e5, List.take_length]
  · rintro e tm hp ⟨rfl, e0, e5⟩
    have hlen := lst_len (p.length + 1) (runS (sameB f) p t (startS p))
    have h2 := J2_acc p f (lst (p.length + 1) (runS (sameB f) p t (startS p))) hl (by omega)
    rw [ofS_lst (by omega)] at h2
    refine vcE.ex (by simp (disch := omega) only [exC, exOps, exOp, evE, evsE, putE, wantedE, Nat.reduceEqDiff, ↓reduceIte, ROp.run, same, binA, intA, strA, eqA, indexSA, byteA, unA, bounds3, Option.map_some, Option.map_none, dec_true, dec_false, Int.toNat_natCast, Int.natCast_nonneg, beq_self_eq_true, List.append_nil, beq_iff_eq, reduceCtorEq, List.getD_cons_zero, List.getD_cons_succ, loadA, rowA, pickA, bslA, storeA_eq, decide_true, flatA, List.length_cons, List.length_nil, Nat.reduceAdd, List.flatMap_cons, List.flatMap_nil, BEq.rfl, List.cons_append, List.nil_append, if_pos, if_neg, ordered, List.getElem?_cons_zero, List.getElem?_cons_succ, frzL, nidL, frz_func, frz_agg, frz_tup, frz_iface, fresh_func, fresh_agg, fresh_tup, fresh_iface, frz_ptr, frz_sl, fresh_sl, Cls.isFree, Cls.makes, callCls, chain, cond_true, tz, ty, faddrA, allocA, over, List.take_succ_cons, List.take_zero, List.drop_succ_cons, List.drop_zero, List.drop_nil, List.set_cons_zero, List.set_cons_succ, Nat.reduceLeDiff, and_self, e0, e5, hfz, nP_nid, h2, Enc.S_nid]; rfl) ?_
    exact ⟨_, rfl, rfl⟩

end Go.Gi
