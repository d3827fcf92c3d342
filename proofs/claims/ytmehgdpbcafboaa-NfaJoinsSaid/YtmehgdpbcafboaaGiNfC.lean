/- States: a row as a list. -/
import Derived.Test.YtmehgdpbcafboaaGiNfB
set_option linter.unusedVariables false
set_option linter.unusedSimpArgs false
namespace Go.Gi
open Go Go.Proofs

/-- A row's places so far, as numbers. -/
def listTo (R : List Bool) (k : Nat) : List Int := ((List.range k).filter fun i => decide (R[i]? = some true)).map fun (i : Nat) => (i : Int)
theorem listTo_zero (R : List Bool) : listTo R 0 = [] := rfl
theorem listTo_one {R : List Bool} {k : Nat} (h : R[k]? = some true) : listTo R (k + 1) = listTo R k ++ [(k : Int)] := by
  simp [listTo, List.range_succ, List.filter_append, h]
theorem listTo_no {R : List Bool} {k : Nat} (h : R[k]? = some false) : listTo R (k + 1) = listTo R k := by
  simp [listTo, List.range_succ, List.filter_append, h]
theorem listTo_len (R : List Bool) (k : Nat) : (listTo R k).length ≤ k := by
  simp only [listTo, List.length_map]
  exact Nat.le_trans (List.length_filter_le _ _) (by simp)
def listB (R : List Bool) : List Int := listTo R R.length

/-- At a place: the list so far lies in the variable's cell. -/
def LJ (R : List Bool) (l : List AV) (i : Nat) (hp : HP) : Prop :=
  ∃ id, hp[0]? = some (some (.row 72 [bld id (listTo R i).length 1])) ∧ BldAt encI hp id 3 (listTo R i) ∧ (listTo R i = [] ∨ 2 ≤ id) ∧ hp[1]? = some (some (.loop l 109000 .ready none)) ∧ i ≤ R.length

theorem src_int {hp : HP} {e : TypeId} {c : Int} {ex : Bool} : srcA (hp ++ [some (.row e [.int .i64 c])]) 1 (.sl hp.length 0 1 1 1 ex) = some (encI.cs [c], 1) := by
  have := encI.sl_src (hp := hp ++ [some (.row e [.int .i64 c])]) (id := hp.length) (e := e) (l := [c]) (lo := 1) (ex := ex) (by simp; rfl)
  exact this

theorem list_round {R : List Bool} (hR : R.length ≤ 1000000) {l : List AV} {tm0 : Env} (hl : Is 13 tm0 l) (h3 : tm0 3 = .ptr 0 0) {i : Nat} {hp : HP} (hi : R[i]? = some true) (hJ : LJ R l i hp) :
    ARound Try.prog 1 [.int .i64 i] hp fun r hp' => (r = .bool true ∧ LJ R l (i + 1) hp') ∨ (r = .bool false ∧ False) := by
  obtain ⟨id, g0, hb, hid, g1, hir⟩ := hJ
  have hil := (List.getElem?_eq_some_iff.1 hi).1
  have hlen := listTo_len R i
  refine round_e hmG (TabOk.none _) lok109000 g1 rfl (tm := upd tm0 7 (.int .i64 i)) (hl.setP 7 _) ?_
  intro hint
  refine vcE.ex (by simp (disch := omega) only [exC, exOps, exOp, evE, evsE, putE, wantedE, upd_app, Nat.reduceEqDiff, ↓reduceIte, ROp.run, same, binA, intA, strA, eqA, indexSA, byteA, unA, bounds3, Option.map_some, Option.map_none, dec_true, dec_false, wrap_i64, Int.toNat_natCast, Int.natCast_nonneg, beq_self_eq_true, List.append_nil, Bool.false_eq_true, beq_iff_eq, reduceCtorEq, Bool.true_eq_false, Bool.not_false, Bool.not_true, start_app, List.getD_cons_zero, List.getD_cons_succ, loadA, rowA, pickA, Nat.mul_one, bslA, storeA_eq, boxA_eq, partsOk_nil, partsOk_cons, Enc.S_notTup, osl_notTup, decide_true, and_self, flatA, List.length_cons, List.length_nil, Nat.reduceAdd, Nat.zero_add, List.flatMap_cons, List.flatMap_nil, Bool.and_self, Bool.and_true, BEq.rfl, List.cons_append, List.nil_append, if_pos, if_neg, ordered, List.getElem?_cons_zero, List.getElem?_cons_succ, frzL, nidL, lenA_sl, frz_func, frz_agg, frz_tup, frz_iface, fresh_func, fresh_agg, fresh_tup, fresh_iface, frz_fsl, frz_fptr, frz_ptr, frz_sl, fresh_sl, Enc.S_one, Enc.S_cells, Enc.S_str, Enc.S_len, Enc.S_fits, Enc.S_nid, Enc.S_frz, Enc.S_src, Enc.S_iaddr, osl_one, osl_cells, osl_str, osl_len, osl_fits, Cls.isFree, Cls.makes, callCls, chain, cond_true, Bool.and_false, Bool.false_and, Bool.true_and, Bool.or_true, Bool.true_or, Bool.or_false, Bool.false_or, tz]; rfl) ?_
  refine ⟨rfl, l, _, none, g1, ?_⟩
  have hb1 : hp[1]? = some (some (.loop l 109000 .ready none)) := g1
  generalize hh : hp.set 1 (some (.loop l 109000 .busy none)) = h1
  have k0 : h1[0]? = some (some (.row 72 [bld id (listTo R i).length 1])) := by rw [← hh, set_get_ne (by omega)]; exact g0
  have k1 : h1[1]? = some (some (.loop l 109000 .busy none)) := by rw [← hh]; exact set_get g1
  have kb : BldAt encI h1 id 3 (listTo R i) := by
    rcases hb with hb | hb
    · exact .inl hb
    · rcases hid with h | h
      · exact .inl h
      · exact .inr (by rw [← hh, set_get_ne (by omega)]; exact hb)
  have kl : 2 ≤ h1.length := get_lt k1
  have happ := (kb.app [some (.row 3 [.int .i64 (i : Int)])]).more (bytes := 8) (m := [(i : Int)]) (src_int (ex := true)) (by simp) (by simp; omega) (by simp; omega)
  simp only [show encI.sz = 1 from rfl] at happ
  have hload : (h1)[0]? = some (some (.row 72 [bld id (listTo R i).length 1])) := k0
  have hother : ∀ j y, (h1 ++ [some (.row 3 [.int .i64 (i : Int)])])[j]? = some y → ((listTo R i).length = 0 ∨ j ≠ id) → (bldH (h1 ++ [some (.row 3 [.int .i64 (i : Int)])]) id (listTo R i).length (.row 3 (encI.cs (listTo R i ++ [(i : Int)]))))[j]? = some y := fun j y h h' => bldH_other h h'
  have hz : (listTo R i).length = 0 ∨ (0 : Nat) ≠ id := by
    rcases hid with h | h
    · exact .inl (by rw [h]; rfl)
    · exact .inr (by omega)
  have hz1 : (listTo R i).length = 0 ∨ (1 : Nat) ≠ id := by
    rcases hid with h | h
    · exact .inl (by rw [h]; rfl)
    · exact .inr (by omega)
  have e0 := hother 0 _ (app_get k0) hz
  have e1 := hother 1 _ (app_get k1) hz1
  have hat := BldAt.moreAt encI (h1 ++ [some (.row 3 [.int .i64 (i : Int)])]) id (listTo R i).length 3 (listTo R i ++ [(i : Int)])
  have hlen2 : (h1 ++ [some (Blk.row 3 [.int .i64 (i : Int)])]).length = h1.length + 1 := by simp
  refine vcE.ex (by simp (disch := omega) only [exC, exOps, exOp, evE, evsE, putE, wantedE, upd_app, Nat.reduceEqDiff, ↓reduceIte, ROp.run, same, binA, intA, strA, eqA, indexSA, byteA, unA, bounds3, Option.map_some, Option.map_none, dec_true, dec_false, wrap_i64, Int.toNat_natCast, Int.natCast_nonneg, beq_self_eq_true, List.append_nil, Bool.false_eq_true, beq_iff_eq, reduceCtorEq, Bool.true_eq_false, Bool.not_false, Bool.not_true, start_app, List.getD_cons_zero, List.getD_cons_succ, loadA, rowA, pickA, Nat.mul_one, bslA, storeA_eq, boxA_eq, partsOk_nil, partsOk_cons, Enc.S_notTup, osl_notTup, decide_true, and_self, flatA, List.length_cons, List.length_nil, Nat.reduceAdd, Nat.zero_add, List.flatMap_cons, List.flatMap_nil, Bool.and_self, Bool.and_true, BEq.rfl, List.cons_append, List.nil_append, if_pos, if_neg, ordered, List.getElem?_cons_zero, List.getElem?_cons_succ, frzL, nidL, lenA_sl, frz_func, frz_agg, frz_tup, frz_iface, fresh_func, fresh_agg, fresh_tup, fresh_iface, frz_fsl, frz_fptr, frz_ptr, frz_sl, fresh_sl, Enc.S_one, Enc.S_cells, Enc.S_str, Enc.S_len, Enc.S_fits, Enc.S_nid, Enc.S_frz, Enc.S_src, Enc.S_iaddr, osl_one, osl_cells, osl_str, osl_len, osl_fits, Cls.isFree, Cls.makes, callCls, chain, cond_true, Bool.and_false, Bool.false_and, Bool.true_and, Bool.or_true, Bool.true_or, Bool.or_false, Bool.false_or, tz, faddrA, allocA, over, List.take_succ_cons, List.take_zero, List.drop_succ_cons, List.drop_zero, List.drop_nil, List.set_cons_zero, List.set_cons_succ, Nat.reduceLeDiff, and_self, h3, k0, bld_one, happ, e0, bld_cells, show ∀ a b c, notTup (bld a b c) = true from fun a b c => by unfold bld; split <;> rfl]; rfl) ?_
  refine ⟨none, l, _, .busy, none, rfl, by rw [set_get_ne (by omega)]; exact e1, .inl ⟨rfl, (h1 ++ [some (Blk.row 3 [.int .i64 (i : Int)])]).length, ?_, ?_, ?_, ?_, hil⟩⟩
  · rw [set_get_ne (by omega), set_get e0, listTo_one hi]
  · rw [listTo_one hi]
    rcases hat with h | h
    · simp at h
    · exact .inr (by rw [set_get_ne (by omega), set_get_ne (by omega)]; exact h)
  · exact .inr (by omega)
  · rw [set_get (y := some (.loop l 109000 .busy none)) (by rw [set_get_ne (by omega)]; exact e1)]
    rfl

theorem cList (R : List Bool) (hR : R.length ≤ 1000000) : ACalls Try.prog 109 [encT.S R] [] fun r' hp' => ∃ id, r' = bld id (listB R).length 1 ∧ BldAt encI hp' id 3 (listB R) := by
  refine calls_k hmG H1_ok comp109 keys109 (by decide) (by simp) ?_
  refine vcE.step (by simp (disch := omega) only [exC, exOps, exOp, evE, evsE, putE, wantedE, upd_app, Nat.reduceEqDiff, ↓reduceIte, ROp.run, same, binA, intA, strA, eqA, indexSA, byteA, unA, bounds3, Option.map_some, Option.map_none, dec_true, dec_false, wrap_i64, Int.toNat_natCast, Int.natCast_nonneg, beq_self_eq_true, List.append_nil, Bool.false_eq_true, beq_iff_eq, reduceCtorEq, Bool.true_eq_false, Bool.not_false, Bool.not_true, start_app, List.getD_cons_zero, List.getD_cons_succ, loadA, rowA, pickA, Nat.mul_one, bslA, storeA_eq, boxA_eq, partsOk_nil, partsOk_cons, Enc.S_notTup, osl_notTup, decide_true, and_self, flatA, List.length_cons, List.length_nil, Nat.reduceAdd, Nat.zero_add, List.flatMap_cons, List.flatMap_nil, Bool.and_self, Bool.and_true, BEq.rfl, List.cons_append, List.nil_append, if_pos, if_neg, ordered, List.getElem?_cons_zero, List.getElem?_cons_succ, frzL, nidL, lenA_sl, frz_func, frz_agg, frz_tup, frz_iface, fresh_func, fresh_agg, fresh_tup, fresh_iface, frz_fsl, frz_fptr, frz_ptr, frz_sl, fresh_sl, Enc.S_one, Enc.S_cells, Enc.S_str, Enc.S_len, Enc.S_fits, Enc.S_nid, Enc.S_frz, Enc.S_src, Enc.S_iaddr, osl_one, osl_cells, osl_str, osl_len, osl_fits, Cls.isFree, Cls.makes, callCls, chain, cond_true, Bool.and_false, Bool.false_and, Bool.true_and, Bool.or_true, Bool.true_or, Bool.or_false, Bool.false_or, tz]; rfl) (vcE.step (by simp (disch := omega) only [exC, exOps, exOp, evE, evsE, putE, wantedE, upd_app, Nat.reduceEqDiff, ↓reduceIte, ROp.run, same, binA, intA, strA, eqA, indexSA, byteA, unA, bounds3, Option.map_some, Option.map_none, dec_true, dec_false, wrap_i64, Int.toNat_natCast, Int.natCast_nonneg, beq_self_eq_true, List.append_nil, Bool.false_eq_true, beq_iff_eq, reduceCtorEq, Bool.true_eq_false, Bool.not_false, Bool.not_true, start_app, List.getD_cons_zero, List.getD_cons_succ, loadA, rowA, pickA, Nat.mul_one, bslA, storeA_eq, boxA_eq, partsOk_nil, partsOk_cons, Enc.S_notTup, osl_notTup, decide_true, and_self, flatA, List.length_cons, List.length_nil, Nat.reduceAdd, Nat.zero_add, List.flatMap_cons, List.flatMap_nil, Bool.and_self, Bool.and_true, BEq.rfl, List.cons_append, List.nil_append, if_pos, if_neg, ordered, List.getElem?_cons_zero, List.getElem?_cons_succ, frzL, nidL, lenA_sl, frz_func, frz_agg, frz_tup, frz_iface, fresh_func, fresh_agg, fresh_tup, fresh_iface, frz_fsl, frz_fptr, frz_ptr, frz_sl, fresh_sl, Enc.S_one, Enc.S_cells, Enc.S_str, Enc.S_len, Enc.S_fits, Enc.S_nid, Enc.S_frz, Enc.S_src, Enc.S_iaddr, osl_one, osl_cells, osl_str, osl_len, osl_fits, Cls.isFree, Cls.makes, callCls, chain, cond_true, Bool.and_false, Bool.false_and, Bool.true_and, Bool.or_true, Bool.true_or, Bool.or_false, Bool.false_or, tz, faddrA, allocA, over, List.take_succ_cons, List.take_zero, List.drop_succ_cons, List.drop_zero, List.drop_nil, List.set_cons_zero, List.set_cons_succ, Nat.reduceLeDiff, and_self]; rfl) (vcE.then (fun e tm hp => e = .normal ∧ tm 3 = .ptr 0 0 ∧ ∃ id, hp[0]? = some (some (.row 72 [bld id (listB R).length 1])) ∧ BldAt encI hp id 3 (listB R)) ?_ ?_))
  · refine vcE.step (by simp (disch := omega) only [exC, exOps, exOp, evE, evsE, putE, wantedE, upd_app, Nat.reduceEqDiff, ↓reduceIte, ROp.run, same, binA, intA, strA, eqA, indexSA, byteA, unA, bounds3, Option.map_some, Option.map_none, dec_true, dec_false, wrap_i64, Int.toNat_natCast, Int.natCast_nonneg, beq_self_eq_true, List.append_nil, Bool.false_eq_true, beq_iff_eq, reduceCtorEq, Bool.true_eq_false, Bool.not_false, Bool.not_true, start_app, List.getD_cons_zero, List.getD_cons_succ, loadA, rowA, pickA, Nat.mul_one, bslA, storeA_eq, boxA_eq, partsOk_nil, partsOk_cons, Enc.S_notTup, osl_notTup, decide_true, and_self, flatA, List.length_cons, List.length_nil, Nat.reduceAdd, Nat.zero_add, List.flatMap_cons, List.flatMap_nil, Bool.and_self, Bool.and_true, BEq.rfl, List.cons_append, List.nil_append, if_pos, if_neg, ordered, List.getElem?_cons_zero, List.getElem?_cons_succ, frzL, nidL, lenA_sl, frz_func, frz_agg, frz_tup, frz_iface, fresh_func, fresh_agg, fresh_tup, fresh_iface, frz_fsl, frz_fptr, frz_ptr, frz_sl, fresh_sl, Enc.S_one, Enc.S_cells, Enc.S_str, Enc.S_len, Enc.S_fits, Enc.S_nid, Enc.S_frz, Enc.S_src, Enc.S_iaddr, osl_one, osl_cells, osl_str, osl_len, osl_fits, Cls.isFree, Cls.makes, callCls, chain, cond_true, Bool.and_false, Bool.false_and, Bool.true_and, Bool.or_true, Bool.true_or, Bool.or_false, Bool.false_or, tz, faddrA, allocA, over, List.take_succ_cons, List.take_zero, List.drop_succ_cons, List.drop_zero, List.drop_nil, List.set_cons_zero, List.set_cons_succ, Nat.reduceLeDiff, and_self, H1_all, Enc.S_nid]; rfl) (vcE.block (vcE.rangeF (g := 137) (caps := [.fptr [encT.S R] 0]) ?_ ?_))
    · simp only [evE, upd_app, Nat.reduceEqDiff, ↓reduceIte]
    · intro l hl
      refine (cAll (R := R) (by omega) (id := 1) (J := LJ R l) (S := fun _ => False) (hp0 := [some (.row 72 [.nils]), some (.loop l 109000 .ready none)]) ⟨0, rfl, .inl rfl, .inl rfl, rfl, Nat.zero_le _⟩ ?_ ?_).mono ?_
      · intro i hp hi hJ
        exact list_round hR hl (by simp only [upd_app, Nat.reduceEqDiff, ↓reduceIte]) hi hJ
      · rintro i hp hi ⟨id, g0, hb, hid, g1, hir⟩
        have hil := (List.getElem?_eq_some_iff.1 hi).1
        exact ⟨id, by rw [listTo_no hi]; exact g0, by rw [listTo_no hi]; exact hb, by rw [listTo_no hi]; exact hid, g1, hil⟩
      · rintro r hp' (⟨id, g0, hb, hid, g1, hir⟩ | h)
        · refine ⟨l, _, .ready, none, g1, by simp, rfl, ?_, id, ?_, ?_⟩
          · simp only [upd_app, Nat.reduceEqDiff, ↓reduceIte]
          · rw [set_get_ne (by simp)]
            exact g0
          · rcases hb with h | h
            · exact .inl h
            · rcases hid with h' | h'
              · exact .inl h'
              · exact .inr (by rw [set_get_ne (by simp; omega)]; exact h)
        · exact h.elim
  · rintro e tm hp ⟨rfl, h3, id, g0, hb⟩
    refine vcE.ex (by simp (disch := omega) only [exC, exOps, exOp, evE, evsE, putE, wantedE, upd_app, Nat.reduceEqDiff, ↓reduceIte, ROp.run, same, binA, intA, strA, eqA, indexSA, byteA, unA, bounds3, Option.map_some, Option.map_none, dec_true, dec_false, wrap_i64, Int.toNat_natCast, Int.natCast_nonneg, beq_self_eq_true, List.append_nil, Bool.false_eq_true, beq_iff_eq, reduceCtorEq, Bool.true_eq_false, Bool.not_false, Bool.not_true, start_app, List.getD_cons_zero, List.getD_cons_succ, loadA, rowA, pickA, Nat.mul_one, bslA, storeA_eq, boxA_eq, partsOk_nil, partsOk_cons, Enc.S_notTup, osl_notTup, decide_true, and_self, flatA, List.length_cons, List.length_nil, Nat.reduceAdd, Nat.zero_add, List.flatMap_cons, List.flatMap_nil, Bool.and_self, Bool.and_true, BEq.rfl, List.cons_append, List.nil_append, if_pos, if_neg, ordered, List.getElem?_cons_zero, List.getElem?_cons_succ, frzL, nidL, lenA_sl, frz_func, frz_agg, frz_tup, frz_iface, fresh_func, fresh_agg, fresh_tup, fresh_iface, frz_fsl, frz_fptr, frz_ptr, frz_sl, fresh_sl, Enc.S_one, Enc.S_cells, Enc.S_str, Enc.S_len, Enc.S_fits, Enc.S_nid, Enc.S_frz, Enc.S_src, Enc.S_iaddr, osl_one, osl_cells, osl_str, osl_len, osl_fits, Cls.isFree, Cls.makes, callCls, chain, cond_true, Bool.and_false, Bool.false_and, Bool.true_and, Bool.or_true, Bool.true_or, Bool.or_false, Bool.false_or, tz, h3, g0, bld_one]; rfl) ?_
    exact ⟨_, rfl, id, rfl, hb⟩
theorem pList (R : List Bool) (hR : R.length ≤ 1000000) : PCF Try.prog 109 [encT.S R] (encI.S (listB R)) :=
  pcf_of (nidL_ok (by simp only [nidL, Enc.S_nid, Bool.and_self])) ((cList R hR).mono fun r hp' ⟨id, h1, h2⟩ => by subst h1; exact fresh_ok h2.fresh)

end Go.Gi
