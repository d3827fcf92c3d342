/- glob.Norm: what it gives. -/
import Derived.Test.YtmehgdpbcafboaaDoorGiGlC
set_option linter.unusedVariables false
set_option linter.unusedSimpArgs false
namespace Go.Gi
set_option linter.unusedSectionVars false
variable [Mx]
open Go Go.Proofs

/-- Wild bytes at the front of what is left. -/
theorem take_wild {p : List UInt8} {i r : Nat} (h : ∀ k c, i ≤ k → k < r → p[k]? = some c → wildB c) : ∀ c ∈ (p.drop i).take (r - i), c = 42 ∨ c = 63 := by
  intro c hc
  obtain ⟨k, hk, he⟩ := List.mem_iff_getElem.1 hc
  simp only [List.length_take, List.length_drop] at hk
  rw [List.getElem_take, List.getElem_drop] at he
  exact h (i + k) c (by omega) (by omega) (by rw [← he]; exact List.getElem?_eq_getElem (by omega))
theorem drop_split {p : List UInt8} {i r : Nat} (h1 : i ≤ r) : p.drop i = (p.drop i).take (r - i) ++ p.drop r := by
  conv => lhs; rw [← List.take_append_drop (r - i) (p.drop i)]
  rw [List.drop_drop, show i + (r - i) = r by omega]
theorem rest_plain {p : List UInt8} {r : Nat} (h : ∀ c, p[r]? = some c → ¬ wildB c) : p.drop r = [] ∨ ∃ c q, p.drop r = c :: q ∧ c ≠ 42 ∧ c ≠ 63 := by
  cases hc : p[r]? with
  | none => exact .inl (List.drop_eq_nil_iff.2 (List.getElem?_eq_none_iff.1 hc))
  | some c =>
    have := h c hc
    exact .inr ⟨c, _, drop_at hc, fun e => this (.inl e), fun e => this (.inr e)⟩
/-- What a run of wild bytes gives. -/
theorem norm_run {p : List UInt8} {i r : Nat} (h1 : i ≤ r) (hw : ∀ k c, i ≤ k → k < r → p[k]? = some c → wildB c) (he : ∀ c, p[r]? = some c → ¬ wildB c) :
    normS false (p.drop i) = List.replicate (((p.drop i).take (r - i)).count 63) 63 ++ ((if ((p.drop i).take (r - i)).count 63 < ((p.drop i).take (r - i)).length then [42] else []) ++ normS false (p.drop r)) := by
  have hwt := take_wild hw
  conv => lhs; rw [drop_split h1]
  rw [normS_wild _ _ _ hwt, normS_end _ _ (rest_plain he), Bool.false_or]
  congr 2
  by_cases h42 : 42 ∈ (p.drop i).take (r - i)
  · rw [decide_eq_true h42, if_pos rfl, if_pos ((count_wild hwt).2 h42)]
  · rw [decide_eq_false h42, if_neg (by simp), if_neg (fun h => h42 ((count_wild hwt).1 h))]

def NI (p : List UInt8) (i : Nat) (tm : Env) (hp : HP) : Prop :=
  ∃ id O, tm 0 = .str p ∧ tm 3 = bld id O.length 1 ∧ tm 4 = .int .i64 i ∧ BldAt encB hp id 5 O ∧ O ++ normS false (p.drop i) = normB p ∧ i ≤ p.length

theorem src_one {hp : HP} {e : TypeId} {c : UInt8} {ex : Bool} : srcA (hp ++ [some (.row e [.int .u8 c.toNat])]) 1 (.sl hp.length 0 1 1 1 ex) = some (encB.cs [c], 1) := by
  have := encB.sl_src (hp := hp ++ [some (.row e [.int .u8 c.toNat])]) (id := hp.length) (e := e) (l := [c]) (lo := 1) (ex := ex) (by simp; rfl)
  exact this

theorem frz_one {hp : HP} {e : TypeId} {c : UInt8} {ex : Bool} : frz (hp ++ [some (.row e [.int .u8 c.toNat])]) (.sl hp.length 0 1 1 1 ex) = some (encB.S [c]) := by
  have := encB.sl_frz (hp := hp ++ [some (.row e [.int .u8 c.toNat])]) (id := hp.length) (e := e) (l := [c]) (lo := 1) (ex := ex) (by simp; rfl)
  exact this
theorem conv_one {hp : HP} {e : TypeId} {cs : List AV} {n lo : Nat} {ex : Bool} : convA (hp ++ [some (.row e cs)]) (.sl hp.length 0 n 1 lo ex) = some (.sl hp.length 0 n 1 lo ex) := by
  simp [convA]
theorem frz_row {hp : HP} {e : TypeId} {w : List UInt8} {new : HP} : frz (hp ++ [some (.row e (encB.cs w))] ++ new) (.sl hp.length 0 w.length 1 w.length false) = some (encB.S w) :=
  encB.sl_frz (e := e) (l := w) (app_get (by simp))
theorem sslice_str {p : List UInt8} {i r : Nat} (h1 : i ≤ r) (h2 : r ≤ p.length) : sliceA 0 (.str p) (some (.int .i64 i)) (some (.int .i64 r)) none = some (.str ((p.drop i).take (r - i))) := by
  have e1 : (i : Int).toNat = i := rfl
  simp [sliceA, bndA, cutA]
  omega
theorem BldAt.any {α : Type} {E : Enc α} {hp : HP} {id : Nat} {e : TypeId} {l m : List α} (h : BldAt E hp id e l) {bytes : Nat} {x : AV} (hx : srcA hp E.sz x = some (E.cs m, m.length)) (hb : (l.length + m.length) * bytes ≤ 140737488355328) (hn : l.length + m.length ≤ 9223372036854775807) :
    ∃ id' hp', appA e E.sz bytes hp (bld id l.length E.sz) x = some (bld id' (l ++ m).length E.sz, hp') ∧ BldAt E hp' id' e (l ++ m) := by
  by_cases h0 : 0 < m.length
  · exact ⟨_, _, h.more hx h0 hb hn, BldAt.moreAt E _ _ _ _ _⟩
  · have := List.eq_nil_of_length_eq_zero (show m.length = 0 by omega)
    subst this
    rw [List.append_nil]
    exact ⟨id, hp, app_none hx, h⟩

theorem norm_round {p : List UInt8} (hl : p.length ≤ 300) {i : Nat} {tm : Env} {hp : HP} (h : NI p i tm hp) (hint : Nat → Nat) {n : Nat} (hi : i < p.length) : vcE Tryd.prog hint G1 n b8_1 tm hp fun e tm' hp' => e = .normal ∧ ∃ k, i < k ∧ NI p k tm' hp' := by
  obtain ⟨id, O, e0, e3, e4, hb, hO, hip⟩ := h
  have hOl : O.length ≤ 300 := by
    have := congrArg List.length hO
    have := normB_len p
    simp only [List.length_append] at *
    omega
  refine vcE.step (by simp (disch := omega) only [exC, exOps, exOp, evE, evsE, putE, wantedE, Nat.reduceEqDiff, ↓reduceIte, ROp.run, same, binA, intA, strA, eqA, indexSA, byteA, unA, bounds3, Option.map_some, Option.map_none, dec_true, dec_false, Int.toNat_natCast, Int.natCast_nonneg, beq_self_eq_true, List.append_nil, beq_iff_eq, reduceCtorEq, List.getD_cons_zero, List.getD_cons_succ, loadA, rowA, pickA, bslA, storeA_eq, decide_true, flatA, List.length_cons, List.length_nil, Nat.reduceAdd, List.flatMap_cons, List.flatMap_nil, BEq.rfl, List.cons_append, List.nil_append, if_pos, if_neg, ordered, List.getElem?_cons_zero, List.getElem?_cons_succ, frzL, nidL, frz_func, frz_agg, frz_tup, frz_iface, fresh_func, fresh_agg, fresh_tup, fresh_iface, frz_ptr, frz_sl, fresh_sl, Cls.isFree, Cls.makes, callCls, chain, cond_true, tz, ty, e0, e4]; rfl) (vcE.block (vcE.step (by simp (disch := omega) only [exC, exOps, exOp, evE, evsE, putE, wantedE, Nat.reduceEqDiff, ↓reduceIte, ROp.run, same, binA, intA, strA, eqA, indexSA, byteA, unA, bounds3, Option.map_some, Option.map_none, dec_true, dec_false, Int.toNat_natCast, Int.natCast_nonneg, beq_self_eq_true, List.append_nil, beq_iff_eq, reduceCtorEq, List.getD_cons_zero, List.getD_cons_succ, loadA, rowA, pickA, bslA, storeA_eq, decide_true, flatA, List.length_cons, List.length_nil, Nat.reduceAdd, List.flatMap_cons, List.flatMap_nil, BEq.rfl, List.cons_append, List.nil_append, if_pos, if_neg, ordered, List.getElem?_cons_zero, List.getElem?_cons_succ, frzL, nidL, frz_func, frz_agg, frz_tup, frz_iface, fresh_func, fresh_agg, fresh_tup, fresh_iface, frz_ptr, frz_sl, fresh_sl, Cls.isFree, Cls.makes, callCls, chain, cond_true, tz, ty, e4]; rfl) (vcE.then _ (run_loop (by omega) hi (p := p) (i := i) (by simp only [upd_app, Nat.reduceEqDiff, ↓reduceIte, e0]) (by simp only [upd_app, Nat.reduceEqDiff, ↓reduceIte]) hint) ?_)))
  rintro e tm' hp' ⟨rfl, rfl, h0, h3, h4, r, h5, hir, hrl, hw, he⟩
  simp only [upd_app, Nat.reduceEqDiff, ↓reduceIte, e0, e3, e4] at h0 h3 h4
  by_cases hr : r = i
  · subst hr
    obtain ⟨c, hc⟩ : ∃ c, p[r]? = some c := ⟨_, List.getElem?_eq_getElem hi⟩
    have happ := (hb.app [some (.row 5 [.int .u8 c.toNat])]).more (bytes := 1) (m := [c]) (src_one (ex := true)) (by simp) (by simp; omega) (by simp; omega)
    simp only [show encB.sz = 1 from rfl] at happ
    have hn : O ++ [c] ++ normS false (p.drop (r + 1)) = normB p := by
      rw [← hO, drop_at hc, normS_plain (fun e => he c hc (.inl e)) (fun e => he c hc (.inr e))]
      simp
    refine vcE.ex (by simp (disch := omega) only [exC, exOps, exOp, evE, evsE, putE, wantedE, Nat.reduceEqDiff, ↓reduceIte, ROp.run, same, binA, intA, strA, eqA, indexSA, byteA, unA, bounds3, Option.map_some, Option.map_none, dec_true, dec_false, Int.toNat_natCast, Int.natCast_nonneg, beq_self_eq_true, List.append_nil, beq_iff_eq, reduceCtorEq, List.getD_cons_zero, List.getD_cons_succ, loadA, rowA, pickA, bslA, storeA_eq, decide_true, flatA, List.length_cons, List.length_nil, Nat.reduceAdd, List.flatMap_cons, List.flatMap_nil, BEq.rfl, List.cons_append, List.nil_append, if_pos, if_neg, ordered, List.getElem?_cons_zero, List.getElem?_cons_succ, frzL, nidL, frz_func, frz_agg, frz_tup, frz_iface, fresh_func, fresh_agg, fresh_tup, fresh_iface, frz_ptr, frz_sl, fresh_sl, Cls.isFree, Cls.makes, callCls, chain, cond_true, tz, ty, h0, h3, h4, h5, hc, happ]; rfl) ?_
    refine ⟨rfl, r + 1, by omega, _, O ++ [c], ?_, ?_, ?_, BldAt.moreAt encB _ _ _ _ _, hn, hi⟩
    all_goals simp only [upd_app, Nat.reduceEqDiff, ↓reduceIte, h0]
    all_goals rfl
  · have hlt : i < r := by omega
    have hwl : ((p.drop i).take (r - i)).length = r - i := by rw [List.length_take, List.length_drop]; omega
    have hsl := sslice_str hir hrl
    have hrun := norm_run hir hw he
    generalize hW : (p.drop i).take (r - i) = w at *
    have hcnt : w.count 63 ≤ w.length := List.count_le_length
    have hO' : O ++ List.replicate (w.count 63) 63 ++ ((if w.count 63 < w.length then [42] else []) ++ normS false (p.drop r)) = normB p := by
      rw [← hO, hrun]
      simp only [List.append_assoc]
    have hOl' : O.length + w.count 63 ≤ 300 := by
      have := congrArg List.length hO'
      have := normB_len p
      simp only [List.length_append, List.length_replicate] at *
      omega
    have hOl2 : w.count 63 < w.length → O.length + w.count 63 + 1 ≤ 300 := fun hc => by
      have := congrArg List.length hO'
      have := normB_len p
      simp only [List.length_append, List.length_replicate, if_pos hc, List.length_cons, List.length_nil] at *
      omega
    have hrep := G1_repeat (w.count 63) (by omega)
    have hcount := G1_count w 63
    have c63 : AV.int .u8 63 = .int .u8 (63 : UInt8).toNat := rfl
    refine vcE.step (by simp (disch := omega) only [exC, exOps, exOp, evE, evsE, putE, wantedE, Nat.reduceEqDiff, ↓reduceIte, ROp.run, same, binA, intA, strA, eqA, indexSA, byteA, unA, bounds3, Option.map_some, Option.map_none, dec_true, dec_false, Int.toNat_natCast, Int.natCast_nonneg, beq_self_eq_true, List.append_nil, beq_iff_eq, reduceCtorEq, List.getD_cons_zero, List.getD_cons_succ, loadA, rowA, pickA, bslA, storeA_eq, decide_true, flatA, List.length_cons, List.length_nil, Nat.reduceAdd, List.flatMap_cons, List.flatMap_nil, BEq.rfl, List.cons_append, List.nil_append, if_pos, if_neg, ordered, List.getElem?_cons_zero, List.getElem?_cons_succ, frzL, nidL, frz_func, frz_agg, frz_tup, frz_iface, fresh_func, fresh_agg, fresh_tup, fresh_iface, frz_ptr, frz_sl, fresh_sl, Cls.isFree, Cls.makes, callCls, chain, cond_true, tz, ty, h4, h5]; rfl) ?_
    refine vcE.step (by simp (disch := omega) only [exC, exOps, exOp, evE, evsE, putE, wantedE, Nat.reduceEqDiff, ↓reduceIte, ROp.run, same, binA, intA, strA, eqA, indexSA, byteA, unA, bounds3, Option.map_some, Option.map_none, dec_true, dec_false, Int.toNat_natCast, Int.natCast_nonneg, beq_self_eq_true, List.append_nil, beq_iff_eq, reduceCtorEq, List.getD_cons_zero, List.getD_cons_succ, loadA, rowA, pickA, bslA, storeA_eq, decide_true, flatA, List.length_cons, List.length_nil, Nat.reduceAdd, List.flatMap_cons, List.flatMap_nil, BEq.rfl, List.cons_append, List.nil_append, if_pos, if_neg, ordered, List.getElem?_cons_zero, List.getElem?_cons_succ, frzL, nidL, frz_func, frz_agg, frz_tup, frz_iface, fresh_func, fresh_agg, fresh_tup, fresh_iface, frz_ptr, frz_sl, fresh_sl, Cls.isFree, Cls.makes, callCls, chain, cond_true, tz, ty, h0, h4, h5, hsl, s2b_encB, c63, conv_one, ↓frz_one, ↓frz_row, hcount, Enc.S_nid, nid_sl]; rfl) ?_
    obtain ⟨id2, hp2, hap, hb2⟩ := ((hb.app [some (.row 5 (encB.cs w))]).app [some (.row 5 [.int .u8 (63 : UInt8).toNat])] |>.app [some (.row 5 [.int .u8 (63 : UInt8).toNat])]).any (bytes := 1) (m := List.replicate (w.count 63) 63) (x := encB.S (List.replicate (w.count 63) 63)) (encB.S_src _ _) (by simp; omega) (by simp; omega)
    simp only [show encB.sz = 1 from rfl] at hap
    refine vcE.step (by simp (disch := omega) only [exC, exOps, exOp, evE, evsE, putE, wantedE, Nat.reduceEqDiff, ↓reduceIte, ROp.run, same, binA, intA, strA, eqA, indexSA, byteA, unA, bounds3, Option.map_some, Option.map_none, dec_true, dec_false, Int.toNat_natCast, Int.natCast_nonneg, beq_self_eq_true, List.append_nil, beq_iff_eq, reduceCtorEq, List.getD_cons_zero, List.getD_cons_succ, loadA, rowA, pickA, bslA, storeA_eq, decide_true, flatA, List.length_cons, List.length_nil, Nat.reduceAdd, List.flatMap_cons, List.flatMap_nil, BEq.rfl, List.cons_append, List.nil_append, if_pos, if_neg, ordered, List.getElem?_cons_zero, List.getElem?_cons_succ, frzL, nidL, frz_func, frz_agg, frz_tup, frz_iface, fresh_func, fresh_agg, fresh_tup, fresh_iface, frz_ptr, frz_sl, fresh_sl, Cls.isFree, Cls.makes, callCls, chain, cond_true, tz, ty, h0, h3, h4, h5, c63, conv_one, ↓frz_one, hrep, Enc.S_nid, nid_sl, hap]; rfl) ?_
    refine vcE.seq (vcE.seq (vcE.ex (by simp (disch := omega) only [exC, exOps, exOp, evE, evsE, putE, wantedE, Nat.reduceEqDiff, ↓reduceIte, ROp.run, same, binA, intA, strA, eqA, indexSA, byteA, unA, bounds3, Option.map_some, Option.map_none, dec_true, dec_false, Int.toNat_natCast, Int.natCast_nonneg, beq_self_eq_true, List.append_nil, beq_iff_eq, reduceCtorEq, List.getD_cons_zero, List.getD_cons_succ, loadA, rowA, pickA, bslA, storeA_eq, decide_true, flatA, List.length_cons, List.length_nil, Nat.reduceAdd, List.flatMap_cons, List.flatMap_nil, BEq.rfl, List.cons_append, List.nil_append, if_pos, if_neg, ordered, List.getElem?_cons_zero, List.getElem?_cons_succ, frzL, nidL, frz_func, frz_agg, frz_tup, frz_iface, fresh_func, fresh_agg, fresh_tup, fresh_iface, frz_ptr, frz_sl, fresh_sl, Cls.isFree, Cls.makes, callCls, chain, cond_true, tz, ty, h0, h3, h4, h5]; rfl) ?_))
    refine vcE.condD (w.count 63 < w.length) ?_ (fun hc => ?_) (fun hc => ?_)
    · simp only [evE, upd_app, Nat.reduceEqDiff, ↓reduceIte, hwl]
      congr 2
      exact propext (by omega)
    · have hap2 := (hb2.app [some (.row 5 [.int .u8 (42 : UInt8).toNat])]).more (bytes := 1) (m := [42]) (src_one (ex := true)) (by simp) (by simp; omega) (by simp; omega)
      simp only [show encB.sz = 1 from rfl] at hap2
      have c42 : AV.int .u8 42 = .int .u8 (42 : UInt8).toNat := rfl
      refine vcE.ex (by simp (disch := omega) only [exC, exOps, exOp, evE, evsE, putE, wantedE, Nat.reduceEqDiff, ↓reduceIte, ROp.run, same, binA, intA, strA, eqA, indexSA, byteA, unA, bounds3, Option.map_some, Option.map_none, dec_true, dec_false, Int.toNat_natCast, Int.natCast_nonneg, beq_self_eq_true, List.append_nil, beq_iff_eq, reduceCtorEq, List.getD_cons_zero, List.getD_cons_succ, loadA, rowA, pickA, bslA, storeA_eq, decide_true, flatA, List.length_cons, List.length_nil, Nat.reduceAdd, List.flatMap_cons, List.flatMap_nil, BEq.rfl, List.cons_append, List.nil_append, if_pos, if_neg, ordered, List.getElem?_cons_zero, List.getElem?_cons_succ, frzL, nidL, frz_func, frz_agg, frz_tup, frz_iface, fresh_func, fresh_agg, fresh_tup, fresh_iface, frz_ptr, frz_sl, fresh_sl, Cls.isFree, Cls.makes, callCls, chain, cond_true, tz, ty, h0, h3, h4, h5, c42, hap2]; rfl) ?_
      refine vcE.ex (by simp (disch := omega) only [exC, exOps, exOp, evE, evsE, putE, wantedE, Nat.reduceEqDiff, ↓reduceIte, ROp.run, same, binA, intA, strA, eqA, indexSA, byteA, unA, bounds3, Option.map_some, Option.map_none, dec_true, dec_false, Int.toNat_natCast, Int.natCast_nonneg, beq_self_eq_true, List.append_nil, beq_iff_eq, reduceCtorEq, List.getD_cons_zero, List.getD_cons_succ, loadA, rowA, pickA, bslA, storeA_eq, decide_true, flatA, List.length_cons, List.length_nil, Nat.reduceAdd, List.flatMap_cons, List.flatMap_nil, BEq.rfl, List.cons_append, List.nil_append, if_pos, if_neg, ordered, List.getElem?_cons_zero, List.getElem?_cons_succ, frzL, nidL, frz_func, frz_agg, frz_tup, frz_iface, fresh_func, fresh_agg, fresh_tup, fresh_iface, frz_ptr, frz_sl, fresh_sl, Cls.isFree, Cls.makes, callCls, chain, cond_true, tz, ty, h0, h3, h4, h5]; rfl) ?_
      refine ⟨rfl, r, hlt, _, _, ?_, ?_, ?_, BldAt.moreAt encB _ _ _ _ _, ?_, hrl⟩
      · simp only [upd_app, Nat.reduceEqDiff, ↓reduceIte, h0]
      · simp only [upd_app, Nat.reduceEqDiff, ↓reduceIte, h0]
      · simp only [upd_app, Nat.reduceEqDiff, ↓reduceIte, h0, h5]
      · rw [← hO', if_pos hc]
        simp only [List.append_assoc]
    · refine vcE.ex (by simp (disch := omega) only [exC, exOps, exOp, evE, evsE, putE, wantedE, Nat.reduceEqDiff, ↓reduceIte, ROp.run, same, binA, intA, strA, eqA, indexSA, byteA, unA, bounds3, Option.map_some, Option.map_none, dec_true, dec_false, Int.toNat_natCast, Int.natCast_nonneg, beq_self_eq_true, List.append_nil, beq_iff_eq, reduceCtorEq, List.getD_cons_zero, List.getD_cons_succ, loadA, rowA, pickA, bslA, storeA_eq, decide_true, flatA, List.length_cons, List.length_nil, Nat.reduceAdd, List.flatMap_cons, List.flatMap_nil, BEq.rfl, List.cons_append, List.nil_append, if_pos, if_neg, ordered, List.getElem?_cons_zero, List.getElem?_cons_succ, frzL, nidL, frz_func, frz_agg, frz_tup, frz_iface, fresh_func, fresh_agg, fresh_tup, fresh_iface, frz_ptr, frz_sl, fresh_sl, Cls.isFree, Cls.makes, callCls, chain, cond_true, tz, ty]; rfl) ?_
      refine vcE.ex (by simp (disch := omega) only [exC, exOps, exOp, evE, evsE, putE, wantedE, Nat.reduceEqDiff, ↓reduceIte, ROp.run, same, binA, intA, strA, eqA, indexSA, byteA, unA, bounds3, Option.map_some, Option.map_none, dec_true, dec_false, Int.toNat_natCast, Int.natCast_nonneg, beq_self_eq_true, List.append_nil, beq_iff_eq, reduceCtorEq, List.getD_cons_zero, List.getD_cons_succ, loadA, rowA, pickA, bslA, storeA_eq, decide_true, flatA, List.length_cons, List.length_nil, Nat.reduceAdd, List.flatMap_cons, List.flatMap_nil, BEq.rfl, List.cons_append, List.nil_append, if_pos, if_neg, ordered, List.getElem?_cons_zero, List.getElem?_cons_succ, frzL, nidL, frz_func, frz_agg, frz_tup, frz_iface, fresh_func, fresh_agg, fresh_tup, fresh_iface, frz_ptr, frz_sl, fresh_sl, Cls.isFree, Cls.makes, callCls, chain, cond_true, tz, ty, h0, h3, h4, h5]; rfl) ?_
      refine ⟨rfl, r, hlt, id2, _, ?_, ?_, ?_, hb2, ?_, hrl⟩
      · simp only [upd_app, Nat.reduceEqDiff, ↓reduceIte, h0]
      · simp only [upd_app, Nat.reduceEqDiff, ↓reduceIte, h0]
      · simp only [upd_app, Nat.reduceEqDiff, ↓reduceIte, h0, h5]
      · rw [← hO', if_neg hc]
        simp only [List.nil_append]

theorem pNorm (p : List UInt8) (hl : p.length ≤ 300) : PCF Tryd.prog 8 [.str p] (.str (normB p)) := by
  refine pcf_e hmG G1_ok comp8 (by decide) (by simp) (nidL_ok rfl) ?_
  refine vcE.step (by simp only [exC, exOps, exOp, evE, evsE, putE, wantedE, Nat.reduceEqDiff, ↓reduceIte, ROp.run, same, binA, intA, strA, eqA, indexSA, byteA, unA, bounds3, Option.map_some, Option.map_none, dec_true, dec_false, Int.toNat_natCast, Int.natCast_nonneg, beq_self_eq_true, List.append_nil, beq_iff_eq, reduceCtorEq, List.getD_cons_zero, List.getD_cons_succ, loadA, rowA, pickA, bslA, storeA_eq, decide_true, flatA, List.length_cons, List.length_nil, Nat.reduceAdd, List.flatMap_cons, List.flatMap_nil, BEq.rfl, List.cons_append, List.nil_append, if_pos, if_neg, ordered, List.getElem?_cons_zero, List.getElem?_cons_succ, frzL, nidL, frz_func, frz_agg, frz_tup, frz_iface, fresh_func, fresh_agg, fresh_tup, fresh_iface, frz_ptr, frz_sl, fresh_sl, Cls.isFree, Cls.makes, callCls, chain, cond_true, tz, ty]; rfl) (vcE.step (by simp only [exC, exOps, exOp, evE, evsE, putE, wantedE, Nat.reduceEqDiff, ↓reduceIte, ROp.run, same, binA, intA, strA, eqA, indexSA, byteA, unA, bounds3, Option.map_some, Option.map_none, dec_true, dec_false, Int.toNat_natCast, Int.natCast_nonneg, beq_self_eq_true, List.append_nil, beq_iff_eq, reduceCtorEq, List.getD_cons_zero, List.getD_cons_succ, loadA, rowA, pickA, bslA, storeA_eq, decide_true, flatA, List.length_cons, List.length_nil, Nat.reduceAdd, List.flatMap_cons, List.flatMap_nil, BEq.rfl, List.cons_append, List.nil_append, if_pos, if_neg, ordered, List.getElem?_cons_zero, List.getElem?_cons_succ, frzL, nidL, frz_func, frz_agg, frz_tup, frz_iface, fresh_func, fresh_agg, fresh_tup, fresh_iface, frz_ptr, frz_sl, fresh_sl, Cls.isFree, Cls.makes, callCls, chain, cond_true, tz, ty]; rfl) (vcE.then (fun e tm hp => e = .normal ∧ ∃ id, tm 3 = bld id (normB p).length 1 ∧ BldAt encB hp id 5 (normB p)) ?_ ?_))
  · refine vcE.step (by simp only [exC, exOps, exOp, evE, evsE, putE, wantedE, Nat.reduceEqDiff, ↓reduceIte, ROp.run, same, binA, intA, strA, eqA, indexSA, byteA, unA, bounds3, Option.map_some, Option.map_none, dec_true, dec_false, Int.toNat_natCast, Int.natCast_nonneg, beq_self_eq_true, List.append_nil, beq_iff_eq, reduceCtorEq, List.getD_cons_zero, List.getD_cons_succ, loadA, rowA, pickA, bslA, storeA_eq, decide_true, flatA, List.length_cons, List.length_nil, Nat.reduceAdd, List.flatMap_cons, List.flatMap_nil, BEq.rfl, List.cons_append, List.nil_append, if_pos, if_neg, ordered, List.getElem?_cons_zero, List.getElem?_cons_succ, frzL, nidL, frz_func, frz_agg, frz_tup, frz_iface, fresh_func, fresh_agg, fresh_tup, fresh_iface, frz_ptr, frz_sl, fresh_sl, Cls.isFree, Cls.makes, callCls, chain, cond_true, tz, ty]; rfl) (vcE.block (vcE.loop (by intro l tm hp h; simp at h) (fun m tm hp => ∃ i, NI p i tm hp ∧ m = p.length - i) p.length ⟨0, ⟨0, [], rfl, rfl, rfl, BldAt.nil _ _ _ _, rfl, Nat.zero_le _⟩, rfl⟩ ?_))
    rintro m tm hp ⟨i, hN, rfl⟩
    by_cases hi : i < p.length
    · refine (norm_round hl hN _ hi).mono ?_
      rintro e tm' hp' ⟨rfl, k, hk, hN'⟩
      refine ⟨p.length - k, ?_, k, hN', rfl⟩
      have := hN'.choose_spec.choose_spec.2.2.2.2.2
      omega
    · obtain ⟨id, O, e0, e3, e4, hb, hO, hip⟩ := hN
      obtain rfl : i = p.length := by omega
      rw [List.drop_length] at hO
      simp only [normS, Bool.false_eq_true, if_false, List.append_nil] at hO
      subst hO
      refine vcE.ex (by simp (disch := omega) only [exC, exOps, exOp, evE, evsE, putE, wantedE, Nat.reduceEqDiff, ↓reduceIte, ROp.run, same, binA, intA, strA, eqA, indexSA, byteA, unA, bounds3, Option.map_some, Option.map_none, dec_true, dec_false, Int.toNat_natCast, Int.natCast_nonneg, beq_self_eq_true, List.append_nil, beq_iff_eq, reduceCtorEq, List.getD_cons_zero, List.getD_cons_succ, loadA, rowA, pickA, bslA, storeA_eq, decide_true, flatA, List.length_cons, List.length_nil, Nat.reduceAdd, List.flatMap_cons, List.flatMap_nil, BEq.rfl, List.cons_append, List.nil_append, if_pos, if_neg, ordered, List.getElem?_cons_zero, List.getElem?_cons_succ, frzL, nidL, frz_func, frz_agg, frz_tup, frz_iface, fresh_func, fresh_agg, fresh_tup, fresh_iface, frz_ptr, frz_sl, fresh_sl, Cls.isFree, Cls.makes, callCls, chain, cond_true, tz, ty, e0, e4]; rfl) ?_
      refine ⟨rfl, id, ?_, hb⟩
      simp only [upd_app, Nat.reduceEqDiff, ↓reduceIte, e3]
  · rintro e tm hp ⟨rfl, id, h3, hb⟩
    have hs := hb.src
    have hb2 : b2sA hp (bld id (normB p).length 1) = some (.str (normB p)) := by
      unfold b2sA
      rw [show (1 : Nat) = encB.sz from rfl, hs]
      simp only [unbyte_encB, Option.map_some]
      by_cases h0 : (normB p).length = 0
      · rw [h0]; rfl
      · rw [bld_pos (by omega)]
    refine vcE.ex (by simp only [exC, exOps, exOp, evE, evsE, putE, wantedE, Nat.reduceEqDiff, ↓reduceIte, ROp.run, same, binA, intA, strA, eqA, indexSA, byteA, unA, bounds3, Option.map_some, Option.map_none, dec_true, dec_false, Int.toNat_natCast, Int.natCast_nonneg, beq_self_eq_true, List.append_nil, beq_iff_eq, reduceCtorEq, List.getD_cons_zero, List.getD_cons_succ, loadA, rowA, pickA, bslA, storeA_eq, decide_true, flatA, List.length_cons, List.length_nil, Nat.reduceAdd, List.flatMap_cons, List.flatMap_nil, BEq.rfl, List.cons_append, List.nil_append, if_pos, if_neg, ordered, List.getElem?_cons_zero, List.getElem?_cons_succ, frzL, nidL, frz_func, frz_agg, frz_tup, frz_iface, fresh_func, fresh_agg, fresh_tup, fresh_iface, frz_ptr, frz_sl, fresh_sl, Cls.isFree, Cls.makes, callCls, chain, cond_true, tz, ty, h3, hb2]; rfl) ?_
    exact ⟨_, rfl, rfl⟩

end Go.Gi
