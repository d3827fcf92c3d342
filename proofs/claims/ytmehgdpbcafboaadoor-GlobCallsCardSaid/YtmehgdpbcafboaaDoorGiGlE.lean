/- glob.Match: what it computes. -/
import Derived.Test.YtmehgdpbcafboaaDoorGiGlA
import Derived.Test.YtmehgdpbcafboaaDoorGiGlobL
set_option linter.unusedVariables false
set_option linter.unusedSimpArgs false
namespace Go.Gi
set_option linter.unusedSectionVars false
variable [Mx]
open Go Go.Proofs

def TM : Tab := (G0.addR 23 (.cons .u8 (.cons .u8 .nil)) fun p => .rd true (.bool (sameB false p.1 p.2.1))).addR 24 (.cons .u8 (.cons .u8 .nil)) fun p => .rd true (.bool (sameB true p.1 p.2.1))
theorem TM_ok : TabOk Tryd.prog TM := by
  refine TabOk.addR (TabOk.addR G0_ok ?_) ?_
  · exact fun p => pSame0 p.1 p.2.1
  · exact fun p => pSame1 p.1 p.2.1
theorem TM_same (f : Bool) (c b : UInt8) : TM (if f then 24 else 23) [.int .u8 c.toNat, .int .u8 b.toNat] = some (.rd true (.bool (sameB f c b))) := by
  cases f
  · refine (Tab.addR_ne _ _ _ _ rfl _).trans ?_
    exact Tab.addR_self _ _ (.cons .u8 (.cons .u8 .nil)) _ (c, b, ())
  · exact Tab.addR_self _ _ (.cons .u8 (.cons .u8 .nil)) _ (c, b, ())

theorem lex3 {M A A' B B' C C' : Nat} (hB : B' ≤ M) (hC : C' ≤ M) (h : A' < A ∨ (A' = A ∧ (B' < B ∨ (B' = B ∧ C' < C)))) : A' * ((M + 1) * (M + 1)) + B' * (M + 1) + C' < A * ((M + 1) * (M + 1)) + B * (M + 1) + C := by
  have h1 : B' * (M + 1) ≤ M * (M + 1) := Nat.mul_le_mul_right _ hB
  have h2 : (M + 1) * (M + 1) = M * (M + 1) + M + 1 := by rw [Nat.succ_mul]; omega
  rcases h with h | ⟨rfl, h | ⟨rfl, h⟩⟩
  · have h3 : (A' + 1) * ((M + 1) * (M + 1)) ≤ A * ((M + 1) * (M + 1)) := Nat.mul_le_mul_right _ h
    rw [Nat.succ_mul] at h3
    omega
  · have h3 : (B' + 1) * (M + 1) ≤ B * (M + 1) := Nat.mul_le_mul_right _ h
    rw [Nat.succ_mul] at h3
    omega
  · omega

/-- At the head of each round. -/
def MI (sf : FuncId) (s : UInt8 → UInt8 → Bool) (p t : List UInt8) (m : Nat) (tm : Env) (hp : HP) : Prop :=
  ∃ i k a f : Nat, hp = [] ∧ tm 0 = .str p ∧ tm 1 = .str t ∧ tm 7 = .func sf [] ∧ tm 8 = .int .i64 i ∧ tm 9 = .int .i64 k ∧ tm 10 = .int .i64 ((a : Int) - 1) ∧ tm 11 = .int .i64 f ∧ GInv s p t i k a f ∧ f ≤ k ∧ m = (p.length + 1 - a) * ((t.length + 1) * (t.length + 1)) + (t.length - f) * (t.length + 1) + (t.length - k)
/-- When the text is at its end, or the search is over. -/
def MR (s : UInt8 → UInt8 → Bool) (p t : List UInt8) : Exit → Env → HP → Prop
  | .normal, tm, hp => ∃ i : Nat, hp = [] ∧ tm 0 = .str p ∧ tm 8 = .int .i64 i ∧ i ≤ p.length ∧ (gm s p t = true ↔ gm s (p.drop i) [] = true)
  | .ret, tm, hp => hp = [] ∧ tm 6 = .bool false ∧ gm s p t = false
  | _, _, _ => False

theorem u8_eq {c : UInt8} {n : Nat} (hn : n < 256) : c = UInt8.ofNat n ↔ (c.toNat : Int) = n := by
  constructor
  · rintro rfl
    simp
    omega
  · intro h
    apply UInt8.toNat_inj.1
    simp
    omega

theorem match_loop {hint : Nat → Nat} {sf : FuncId} {s : UInt8 → UInt8 → Bool} (hsf : ∀ c b : UInt8, TM sf [.int .u8 c.toNat, .int .u8 b.toNat] = some (.rd true (.bool (s c b)))) {p t : List UInt8} (hp1 : p.length < 4611686018427387904) (ht1 : t.length < 4611686018427387904) {tm : Env} {hp : HP} {m : Nat} (h : MI sf s p t m tm hp) :
    vcE Tryd.prog hint TM 81 (IC.block 0 (IC.loop b9_0)) tm hp (MR s p t) := by
  refine vcE.block (vcE.loop (by intro l tm hp h; exact h) (MI sf s p t) m h ?_)
  clear h tm hp m
  rintro m tm hp ⟨i, k, a, f, rfl, e0, e1, e7, e8, e9, e10, e11, hg, hfk, hm⟩
  have hip := hg.ip
  have hkt := hg.kt
  by_cases hk : k < t.length
  · obtain ⟨b, hb⟩ : ∃ b, t[k]? = some b := ⟨_, List.getElem?_eq_getElem hk⟩
    by_cases hi : i < p.length
    · obtain ⟨c, hc⟩ : ∃ c, p[i]? = some c := ⟨_, List.getElem?_eq_getElem hi⟩
      by_cases h42 : c.toNat = 42
      · refine vcE.ex (by simp (disch := omega) only [exC, exOps, exOp, evE, evsE, putE, wantedE, Nat.reduceEqDiff, ↓reduceIte, ROp.run, same, binA, intA, strA, eqA, indexSA, byteA, unA, bounds3, Option.map_some, Option.map_none, dec_true, dec_false, Int.toNat_natCast, Int.natCast_nonneg, beq_self_eq_true, List.append_nil, beq_iff_eq, reduceCtorEq, List.getD_cons_zero, List.getD_cons_succ, loadA, rowA, pickA, bslA, storeA_eq, decide_true, flatA, List.length_cons, List.length_nil, Nat.reduceAdd, List.flatMap_cons, List.flatMap_nil, BEq.rfl, List.cons_append, List.nil_append, if_pos, if_neg, ordered, List.getElem?_cons_zero, List.getElem?_cons_succ, frzL, nidL, frz_func, frz_agg, frz_tup, frz_iface, fresh_func, fresh_agg, fresh_tup, fresh_iface, frz_ptr, frz_sl, fresh_sl, Cls.isFree, Cls.makes, callCls, chain, cond_true, tz, ty, e0, e1, e7, e8, e9, e10, e11, hb, hc]; rfl) ?_
        have hc' : p[i]? = some 42 := by rw [hc]; congr; exact UInt8.toNat_inj.1 h42
        refine ⟨_, ?_, i + 1, k, i + 1, k, rfl, ?_, ?_, ?_, ?_, ?_, ?_, ?_, hg.star hc', Nat.le_refl _, rfl⟩
        · rw [hm]
          refine lex3 (by omega) (by omega) (.inl ?_)
          by_cases ha : a = 0
          · omega
          · have := (hg.ai ha).1
            omega
        all_goals simp only [upd_app, Nat.reduceEqDiff, ↓reduceIte, e0, e1, e7, e8, e9]
        all_goals first | rfl | (congr 1; omega)
      · have hn : c ≠ 42 := fun e => h42 (by rw [e]; rfl)
        by_cases h63 : c.toNat = 63
        · refine vcE.ex (by simp (disch := omega) only [exC, exOps, exOp, evE, evsE, putE, wantedE, Nat.reduceEqDiff, ↓reduceIte, ROp.run, same, binA, intA, strA, eqA, indexSA, byteA, unA, bounds3, Option.map_some, Option.map_none, dec_true, dec_false, Int.toNat_natCast, Int.natCast_nonneg, beq_self_eq_true, List.append_nil, beq_iff_eq, reduceCtorEq, List.getD_cons_zero, List.getD_cons_succ, loadA, rowA, pickA, bslA, storeA_eq, decide_true, flatA, List.length_cons, List.length_nil, Nat.reduceAdd, List.flatMap_cons, List.flatMap_nil, BEq.rfl, List.cons_append, List.nil_append, if_pos, if_neg, ordered, List.getElem?_cons_zero, List.getElem?_cons_succ, frzL, nidL, frz_func, frz_agg, frz_tup, frz_iface, fresh_func, fresh_agg, fresh_tup, fresh_iface, frz_ptr, frz_sl, fresh_sl, Cls.isFree, Cls.makes, callCls, chain, cond_true, tz, ty, e0, e1, e7, e8, e9, e10, e11, hb, hc]; rfl) ?_
          refine ⟨_, ?_, i + 1, k + 1, a, f, rfl, ?_, ?_, ?_, ?_, ?_, ?_, ?_, hg.one hc hb hn (.inl (UInt8.toNat_inj.1 h63)), by omega, rfl⟩
          · rw [hm]
            exact lex3 (by omega) (by omega) (.inr ⟨rfl, .inr ⟨rfl, by omega⟩⟩)
          all_goals simp only [upd_app, Nat.reduceEqDiff, ↓reduceIte, e0, e1, e7, e8, e9, e10, e11]
          all_goals rfl
        · have hcb := hsf c b
          cases hs : s c b
          · rw [hs] at hcb
            have hno : ¬ gm s (p.drop i) (t.drop k) = true := gm_miss hb fun c' hc' => by
              rw [hc] at hc'
              cases hc'
              exact ⟨hn, fun e => h63 (by rw [e]; rfl), hs⟩
            by_cases ha : a = 0
            · refine vcE.ex (by simp (disch := omega) only [exC, exOps, exOp, evE, evsE, putE, wantedE, Nat.reduceEqDiff, ↓reduceIte, ROp.run, same, binA, intA, strA, eqA, indexSA, byteA, unA, bounds3, Option.map_some, Option.map_none, dec_true, dec_false, Int.toNat_natCast, Int.natCast_nonneg, beq_self_eq_true, List.append_nil, beq_iff_eq, reduceCtorEq, List.getD_cons_zero, List.getD_cons_succ, loadA, rowA, pickA, bslA, storeA_eq, decide_true, flatA, List.length_cons, List.length_nil, Nat.reduceAdd, List.flatMap_cons, List.flatMap_nil, BEq.rfl, List.cons_append, List.nil_append, if_pos, if_neg, ordered, List.getElem?_cons_zero, List.getElem?_cons_succ, frzL, nidL, frz_func, frz_agg, frz_tup, frz_iface, fresh_func, fresh_agg, fresh_tup, fresh_iface, frz_ptr, frz_sl, fresh_sl, Cls.isFree, Cls.makes, callCls, chain, cond_true, tz, ty, e0, e1, e7, e8, e9, e10, e11, hb, hc, hcb]; rfl) ?_
              refine ⟨rfl, ?_, Bool.eq_false_iff.2 fun h0 => hno ((hg.none ha).1 h0)⟩
              simp only [upd_app, Nat.reduceEqDiff, ↓reduceIte]
            · obtain ⟨k1, k2, k3⟩ := hg.ai ha
              refine vcE.ex (by simp (disch := omega) only [exC, exOps, exOp, evE, evsE, putE, wantedE, Nat.reduceEqDiff, ↓reduceIte, ROp.run, same, binA, intA, strA, eqA, indexSA, byteA, unA, bounds3, Option.map_some, Option.map_none, dec_true, dec_false, Int.toNat_natCast, Int.natCast_nonneg, beq_self_eq_true, List.append_nil, beq_iff_eq, reduceCtorEq, List.getD_cons_zero, List.getD_cons_succ, loadA, rowA, pickA, bslA, storeA_eq, decide_true, flatA, List.length_cons, List.length_nil, Nat.reduceAdd, List.flatMap_cons, List.flatMap_nil, BEq.rfl, List.cons_append, List.nil_append, if_pos, if_neg, ordered, List.getElem?_cons_zero, List.getElem?_cons_succ, frzL, nidL, frz_func, frz_agg, frz_tup, frz_iface, fresh_func, fresh_agg, fresh_tup, fresh_iface, frz_ptr, frz_sl, fresh_sl, Cls.isFree, Cls.makes, callCls, chain, cond_true, tz, ty, e0, e1, e7, e8, e9, e10, e11, hb, hc, hcb]; rfl) ?_
              refine ⟨_, ?_, a, f + 1, a, f + 1, rfl, ?_, ?_, ?_, ?_, ?_, ?_, ?_, hg.back ha hk hno, Nat.le_refl _, rfl⟩
              · rw [hm]
                exact lex3 (by omega) (by omega) (.inr ⟨rfl, .inl (by omega)⟩)
              all_goals simp only [upd_app, Nat.reduceEqDiff, ↓reduceIte, e0, e1, e7, e8, e9, e10, e11]
              all_goals first | rfl | (congr 1; omega)
          · rw [hs] at hcb
            refine vcE.ex (by simp (disch := omega) only [exC, exOps, exOp, evE, evsE, putE, wantedE, Nat.reduceEqDiff, ↓reduceIte, ROp.run, same, binA, intA, strA, eqA, indexSA, byteA, unA, bounds3, Option.map_some, Option.map_none, dec_true, dec_false, Int.toNat_natCast, Int.natCast_nonneg, beq_self_eq_true, List.append_nil, beq_iff_eq, reduceCtorEq, List.getD_cons_zero, List.getD_cons_succ, loadA, rowA, pickA, bslA, storeA_eq, decide_true, flatA, List.length_cons, List.length_nil, Nat.reduceAdd, List.flatMap_cons, List.flatMap_nil, BEq.rfl, List.cons_append, List.nil_append, if_pos, if_neg, ordered, List.getElem?_cons_zero, List.getElem?_cons_succ, frzL, nidL, frz_func, frz_agg, frz_tup, frz_iface, fresh_func, fresh_agg, fresh_tup, fresh_iface, frz_ptr, frz_sl, fresh_sl, Cls.isFree, Cls.makes, callCls, chain, cond_true, tz, ty, e0, e1, e7, e8, e9, e10, e11, hb, hc, hcb]; rfl) ?_
            refine ⟨_, ?_, i + 1, k + 1, a, f, rfl, ?_, ?_, ?_, ?_, ?_, ?_, ?_, hg.one hc hb hn (.inr hs), by omega, rfl⟩
            · rw [hm]
              exact lex3 (by omega) (by omega) (.inr ⟨rfl, .inr ⟨rfl, by omega⟩⟩)
            all_goals simp only [upd_app, Nat.reduceEqDiff, ↓reduceIte, e0, e1, e7, e8, e9, e10, e11]
            all_goals rfl
    · have hno : ¬ gm s (p.drop i) (t.drop k) = true := gm_miss hb fun c' hc' => by
        have := (List.getElem?_eq_some_iff.1 hc').1
        omega
      by_cases ha : a = 0
      · refine vcE.ex (by simp (disch := omega) only [exC, exOps, exOp, evE, evsE, putE, wantedE, Nat.reduceEqDiff, ↓reduceIte, ROp.run, same, binA, intA, strA, eqA, indexSA, byteA, unA, bounds3, Option.map_some, Option.map_none, dec_true, dec_false, Int.toNat_natCast, Int.natCast_nonneg, beq_self_eq_true, List.append_nil, beq_iff_eq, reduceCtorEq, List.getD_cons_zero, List.getD_cons_succ, loadA, rowA, pickA, bslA, storeA_eq, decide_true, flatA, List.length_cons, List.length_nil, Nat.reduceAdd, List.flatMap_cons, List.flatMap_nil, BEq.rfl, List.cons_append, List.nil_append, if_pos, if_neg, ordered, List.getElem?_cons_zero, List.getElem?_cons_succ, frzL, nidL, frz_func, frz_agg, frz_tup, frz_iface, fresh_func, fresh_agg, fresh_tup, fresh_iface, frz_ptr, frz_sl, fresh_sl, Cls.isFree, Cls.makes, callCls, chain, cond_true, tz, ty, e0, e1, e7, e8, e9, e10, e11, hb]; rfl) ?_
        refine ⟨rfl, ?_, Bool.eq_false_iff.2 fun h0 => hno ((hg.none ha).1 h0)⟩
        simp only [upd_app, Nat.reduceEqDiff, ↓reduceIte]
      · obtain ⟨k1, k2, k3⟩ := hg.ai ha
        refine vcE.ex (by simp (disch := omega) only [exC, exOps, exOp, evE, evsE, putE, wantedE, Nat.reduceEqDiff, ↓reduceIte, ROp.run, same, binA, intA, strA, eqA, indexSA, byteA, unA, bounds3, Option.map_some, Option.map_none, dec_true, dec_false, Int.toNat_natCast, Int.natCast_nonneg, beq_self_eq_true, List.append_nil, beq_iff_eq, reduceCtorEq, List.getD_cons_zero, List.getD_cons_succ, loadA, rowA, pickA, bslA, storeA_eq, decide_true, flatA, List.length_cons, List.length_nil, Nat.reduceAdd, List.flatMap_cons, List.flatMap_nil, BEq.rfl, List.cons_append, List.nil_append, if_pos, if_neg, ordered, List.getElem?_cons_zero, List.getElem?_cons_succ, frzL, nidL, frz_func, frz_agg, frz_tup, frz_iface, fresh_func, fresh_agg, fresh_tup, fresh_iface, frz_ptr, frz_sl, fresh_sl, Cls.isFree, Cls.makes, callCls, chain, cond_true, tz, ty, e0, e1, e7, e8, e9, e10, e11, hb]; rfl) ?_
        refine ⟨_, ?_, a, f + 1, a, f + 1, rfl, ?_, ?_, ?_, ?_, ?_, ?_, ?_, hg.back ha hk hno, Nat.le_refl _, rfl⟩
        · rw [hm]
          exact lex3 (by omega) (by omega) (.inr ⟨rfl, .inl (by omega)⟩)
        all_goals simp only [upd_app, Nat.reduceEqDiff, ↓reduceIte, e0, e1, e7, e8, e9, e10, e11]
        all_goals first | rfl | (congr 1; omega)
  · refine vcE.ex (by simp (disch := omega) only [exC, exOps, exOp, evE, evsE, putE, wantedE, Nat.reduceEqDiff, ↓reduceIte, ROp.run, same, binA, intA, strA, eqA, indexSA, byteA, unA, bounds3, Option.map_some, Option.map_none, dec_true, dec_false, Int.toNat_natCast, Int.natCast_nonneg, beq_self_eq_true, List.append_nil, beq_iff_eq, reduceCtorEq, List.getD_cons_zero, List.getD_cons_succ, loadA, rowA, pickA, bslA, storeA_eq, decide_true, flatA, List.length_cons, List.length_nil, Nat.reduceAdd, List.flatMap_cons, List.flatMap_nil, BEq.rfl, List.cons_append, List.nil_append, if_pos, if_neg, ordered, List.getElem?_cons_zero, List.getElem?_cons_succ, frzL, nidL, frz_func, frz_agg, frz_tup, frz_iface, fresh_func, fresh_agg, fresh_tup, fresh_iface, frz_ptr, frz_sl, fresh_sl, Cls.isFree, Cls.makes, callCls, chain, cond_true, tz, ty, e0, e1, e7, e8, e9, e10, e11]; rfl) ?_
    refine ⟨i, rfl, ?_, ?_, hip, hg.last (by omega)⟩
    all_goals simp only [upd_app, Nat.reduceEqDiff, ↓reduceIte, e0, e1, e7, e8, e9]

/-- Past the last stars. -/
theorem stars_loop {hint : Nat → Nat} {s : UInt8 → UInt8 → Bool} {p t : List UInt8} (hp1 : p.length < 4611686018427387904) {tm : Env} {hp : HP} (h : MR s p t .normal tm hp) :
    vcE Tryd.prog hint TM 81 (IC.block 3 (IC.loop b9_1)) tm hp fun e tm' hp' => e = .normal ∧ hp' = [] ∧ tm' 0 = .str p ∧ ∃ i : Nat, tm' 8 = .int .i64 i ∧ gm s p t = decide (i = p.length) := by
  refine vcE.block (vcE.loop (by intro l tm hp h; simp at h) (fun m tm hp => MR s p t .normal tm hp ∧ ∃ i : Nat, tm 8 = .int .i64 i ∧ i ≤ p.length ∧ m = p.length - i) (p.length - (h.choose)) ⟨h, h.choose, h.choose_spec.2.2.1, h.choose_spec.2.2.2.1, rfl⟩ ?_)
  clear h tm hp
  rintro m tm hp ⟨⟨i, rfl, e0, e8, hip, hg⟩, i', e8', _, hm⟩
  have hii : i' = i := by rw [e8] at e8'; injection e8' with _ h; omega
  subst hii
  by_cases hi : i' < p.length
  · obtain ⟨c, hc⟩ : ∃ c, p[i']? = some c := ⟨_, List.getElem?_eq_getElem hi⟩
    by_cases h42 : c.toNat = 42
    · refine vcE.ex (by simp (disch := omega) only [exC, exOps, exOp, evE, evsE, putE, wantedE, Nat.reduceEqDiff, ↓reduceIte, ROp.run, same, binA, intA, strA, eqA, indexSA, byteA, unA, bounds3, Option.map_some, Option.map_none, dec_true, dec_false, Int.toNat_natCast, Int.natCast_nonneg, beq_self_eq_true, List.append_nil, beq_iff_eq, reduceCtorEq, List.getD_cons_zero, List.getD_cons_succ, loadA, rowA, pickA, bslA, storeA_eq, decide_true, flatA, List.length_cons, List.length_nil, Nat.reduceAdd, List.flatMap_cons, List.flatMap_nil, BEq.rfl, List.cons_append, List.nil_append, if_pos, if_neg, ordered, List.getElem?_cons_zero, List.getElem?_cons_succ, frzL, nidL, frz_func, frz_agg, frz_tup, frz_iface, fresh_func, fresh_agg, fresh_tup, fresh_iface, frz_ptr, frz_sl, fresh_sl, Cls.isFree, Cls.makes, callCls, chain, cond_true, tz, ty, e0, e8, hc]; rfl) ?_
      have hc' : p[i']? = some 42 := by rw [hc]; congr; exact UInt8.toNat_inj.1 h42
      refine ⟨p.length - (i' + 1), by omega, ⟨i' + 1, rfl, ?_, ?_, hi, hg.trans (gm_stars hc')⟩, i' + 1, ?_, hi, rfl⟩
      all_goals simp only [upd_app, Nat.reduceEqDiff, ↓reduceIte, e0, e8]
      all_goals rfl
    · refine vcE.ex (by simp (disch := omega) only [exC, exOps, exOp, evE, evsE, putE, wantedE, Nat.reduceEqDiff, ↓reduceIte, ROp.run, same, binA, intA, strA, eqA, indexSA, byteA, unA, bounds3, Option.map_some, Option.map_none, dec_true, dec_false, Int.toNat_natCast, Int.natCast_nonneg, beq_self_eq_true, List.append_nil, beq_iff_eq, reduceCtorEq, List.getD_cons_zero, List.getD_cons_succ, loadA, rowA, pickA, bslA, storeA_eq, decide_true, flatA, List.length_cons, List.length_nil, Nat.reduceAdd, List.flatMap_cons, List.flatMap_nil, BEq.rfl, List.cons_append, List.nil_append, if_pos, if_neg, ordered, List.getElem?_cons_zero, List.getElem?_cons_succ, frzL, nidL, frz_func, frz_agg, frz_tup, frz_iface, fresh_func, fresh_agg, fresh_tup, fresh_iface, frz_ptr, frz_sl, fresh_sl, Cls.isFree, Cls.makes, callCls, chain, cond_true, tz, ty, e0, e8, hc]; rfl) ?_
      refine ⟨rfl, rfl, ?_, i', ?_, ?_⟩
      · simp only [upd_app, Nat.reduceEqDiff, ↓reduceIte, e0]
      · simp only [upd_app, Nat.reduceEqDiff, ↓reduceIte, e8]
      · rw [Bool.eq_iff_iff, hg, gm_end hip (by rw [hc]; simp only [ne_eq, Option.some.injEq]; exact fun e => h42 (by rw [e]; rfl))]
  · refine vcE.ex (by simp (disch := omega) only [exC, exOps, exOp, evE, evsE, putE, wantedE, Nat.reduceEqDiff, ↓reduceIte, ROp.run, same, binA, intA, strA, eqA, indexSA, byteA, unA, bounds3, Option.map_some, Option.map_none, dec_true, dec_false, Int.toNat_natCast, Int.natCast_nonneg, beq_self_eq_true, List.append_nil, beq_iff_eq, reduceCtorEq, List.getD_cons_zero, List.getD_cons_succ, loadA, rowA, pickA, bslA, storeA_eq, decide_true, flatA, List.length_cons, List.length_nil, Nat.reduceAdd, List.flatMap_cons, List.flatMap_nil, BEq.rfl, List.cons_append, List.nil_append, if_pos, if_neg, ordered, List.getElem?_cons_zero, List.getElem?_cons_succ, frzL, nidL, frz_func, frz_agg, frz_tup, frz_iface, fresh_func, fresh_agg, fresh_tup, fresh_iface, frz_ptr, frz_sl, fresh_sl, Cls.isFree, Cls.makes, callCls, chain, cond_true, tz, ty, e0, e8]; rfl) ?_
    refine ⟨rfl, rfl, ?_, i', ?_, ?_⟩
    · simp only [upd_app, Nat.reduceEqDiff, ↓reduceIte, e0]
    · simp only [upd_app, Nat.reduceEqDiff, ↓reduceIte, e8]
    · rw [Bool.eq_iff_iff, hg, gm_end hip (by rw [List.getElem?_eq_none (by omega)]; simp)]

theorem match_tail {hint : Nat → Nat} {sf : FuncId} {s : UInt8 → UInt8 → Bool} (hsf : ∀ c b : UInt8, TM sf [.int .u8 c.toNat, .int .u8 b.toNat] = some (.rd true (.bool (s c b)))) {p t : List UInt8} (hp1 : p.length < 4611686018427387904) (ht1 : t.length < 4611686018427387904) {tm : Env} (e0 : tm 0 = .str p) (e1 : tm 1 = .str t) (e7 : tm 7 = .func sf []) :
    vcE Tryd.prog hint TM 81 ((IC.reg r9_4).seq ((IC.reg r9_5).seq (IC.skip.seq ((IC.block 0 (IC.loop b9_0)).seq ((IC.block 3 (IC.loop b9_1)).seq ((IC.reg r9_19).seq IC.ret)))))) tm [] (RetE [.t 6] fun r' hp' => fresh hp' r' = some (.bool (gm s p t))) := by
  refine vcE.step (by simp only [exC, exOps, exOp, evE, evsE, putE, wantedE, Nat.reduceEqDiff, ↓reduceIte, ROp.run, same, binA, intA, strA, eqA, indexSA, byteA, unA, bounds3, Option.map_some, Option.map_none, dec_true, dec_false, Int.toNat_natCast, Int.natCast_nonneg, beq_self_eq_true, List.append_nil, beq_iff_eq, reduceCtorEq, List.getD_cons_zero, List.getD_cons_succ, loadA, rowA, pickA, bslA, storeA_eq, decide_true, flatA, List.length_cons, List.length_nil, Nat.reduceAdd, List.flatMap_cons, List.flatMap_nil, BEq.rfl, List.cons_append, List.nil_append, if_pos, if_neg, ordered, List.getElem?_cons_zero, List.getElem?_cons_succ, frzL, nidL, frz_func, frz_agg, frz_tup, frz_iface, fresh_func, fresh_agg, fresh_tup, fresh_iface, frz_ptr, frz_sl, fresh_sl, Cls.isFree, Cls.makes, callCls, chain, cond_true, tz, ty]; rfl) (vcE.step (by simp only [exC, exOps, exOp, evE, evsE, putE, wantedE, Nat.reduceEqDiff, ↓reduceIte, ROp.run, same, binA, intA, strA, eqA, indexSA, byteA, unA, bounds3, Option.map_some, Option.map_none, dec_true, dec_false, Int.toNat_natCast, Int.natCast_nonneg, beq_self_eq_true, List.append_nil, beq_iff_eq, reduceCtorEq, List.getD_cons_zero, List.getD_cons_succ, loadA, rowA, pickA, bslA, storeA_eq, decide_true, flatA, List.length_cons, List.length_nil, Nat.reduceAdd, List.flatMap_cons, List.flatMap_nil, BEq.rfl, List.cons_append, List.nil_append, if_pos, if_neg, ordered, List.getElem?_cons_zero, List.getElem?_cons_succ, frzL, nidL, frz_func, frz_agg, frz_tup, frz_iface, fresh_func, fresh_agg, fresh_tup, fresh_iface, frz_ptr, frz_sl, fresh_sl, Cls.isFree, Cls.makes, callCls, chain, cond_true, tz, ty]; rfl) (vcE.step (by simp only [exC, exOps, exOp, evE, evsE, putE, wantedE, Nat.reduceEqDiff, ↓reduceIte, ROp.run, same, binA, intA, strA, eqA, indexSA, byteA, unA, bounds3, Option.map_some, Option.map_none, dec_true, dec_false, Int.toNat_natCast, Int.natCast_nonneg, beq_self_eq_true, List.append_nil, beq_iff_eq, reduceCtorEq, List.getD_cons_zero, List.getD_cons_succ, loadA, rowA, pickA, bslA, storeA_eq, decide_true, flatA, List.length_cons, List.length_nil, Nat.reduceAdd, List.flatMap_cons, List.flatMap_nil, BEq.rfl, List.cons_append, List.nil_append, if_pos, if_neg, ordered, List.getElem?_cons_zero, List.getElem?_cons_succ, frzL, nidL, frz_func, frz_agg, frz_tup, frz_iface, fresh_func, fresh_agg, fresh_tup, fresh_iface, frz_ptr, frz_sl, fresh_sl, Cls.isFree, Cls.makes, callCls, chain, cond_true, tz, ty]; rfl) ?_))
  refine vcE.then (MR s p t) (match_loop hsf hp1 ht1 (m := _) ⟨0, 0, 0, 0, rfl, ?_, ?_, ?_, ?_, ?_, ?_, ?_, GInv.start s p t, Nat.le_refl _, rfl⟩) ?_
  · simp only [upd_app, Nat.reduceEqDiff, ↓reduceIte, e0]
  · simp only [upd_app, Nat.reduceEqDiff, ↓reduceIte, e1]
  · simp only [upd_app, Nat.reduceEqDiff, ↓reduceIte, e7]
  · simp only [upd_app, Nat.reduceEqDiff, ↓reduceIte]; rfl
  · simp only [upd_app, Nat.reduceEqDiff, ↓reduceIte]; rfl
  · simp only [upd_app, Nat.reduceEqDiff, ↓reduceIte]; rfl
  · simp only [upd_app, Nat.reduceEqDiff, ↓reduceIte]; rfl
  intro e tm' hp' h
  cases e <;> simp only [MR] at h
  · refine vcE.then _ (stars_loop (s := s) (t := t) hp1 h) ?_
    rintro e tm2 hp2 ⟨rfl, rfl, f0, i, f8, hr⟩
    refine vcE.ex (by simp only [exC, exOps, exOp, evE, evsE, putE, wantedE, Nat.reduceEqDiff, ↓reduceIte, ROp.run, same, binA, intA, strA, eqA, indexSA, byteA, unA, bounds3, Option.map_some, Option.map_none, dec_true, dec_false, Int.toNat_natCast, Int.natCast_nonneg, beq_self_eq_true, List.append_nil, beq_iff_eq, reduceCtorEq, List.getD_cons_zero, List.getD_cons_succ, loadA, rowA, pickA, bslA, storeA_eq, decide_true, flatA, List.length_cons, List.length_nil, Nat.reduceAdd, List.flatMap_cons, List.flatMap_nil, BEq.rfl, List.cons_append, List.nil_append, if_pos, if_neg, ordered, List.getElem?_cons_zero, List.getElem?_cons_succ, frzL, nidL, frz_func, frz_agg, frz_tup, frz_iface, fresh_func, fresh_agg, fresh_tup, fresh_iface, frz_ptr, frz_sl, fresh_sl, Cls.isFree, Cls.makes, callCls, chain, cond_true, tz, ty, f0, f8]; rfl) ?_
    refine ⟨_, rfl, ?_⟩
    simp only [upd_app, Nat.reduceEqDiff, ↓reduceIte]
    rw [hr, show decide ((i : Int) = (p.length : Int)) = decide (i = p.length) from decide_eq_decide.2 (by omega)]
    rfl
  · obtain ⟨rfl, h6, hf⟩ := h
    refine ⟨_, rfl, ?_⟩
    rw [h6, hf]
    rfl

theorem pMatch {p t : List UInt8} (hp1 : p.length < 4611686018427387904) (ht1 : t.length < 4611686018427387904) (f : Bool) : PCF Tryd.prog 9 [.str p, .str t, .bool f] (.bool (gm (sameB f) p t)) := by
  refine pcf_e hmG TM_ok comp9 (by decide) (by simp) (nidL_ok rfl) ?_
  have hs := TM_same f
  refine vcE.step (by simp only [exC, exOps, exOp, evE, evsE, putE, wantedE, Nat.reduceEqDiff, ↓reduceIte, ROp.run, same, binA, intA, strA, eqA, indexSA, byteA, unA, bounds3, Option.map_some, Option.map_none, dec_true, dec_false, Int.toNat_natCast, Int.natCast_nonneg, beq_self_eq_true, List.append_nil, beq_iff_eq, reduceCtorEq, List.getD_cons_zero, List.getD_cons_succ, loadA, rowA, pickA, bslA, storeA_eq, decide_true, flatA, List.length_cons, List.length_nil, Nat.reduceAdd, List.flatMap_cons, List.flatMap_nil, BEq.rfl, List.cons_append, List.nil_append, if_pos, if_neg, ordered, List.getElem?_cons_zero, List.getElem?_cons_succ, frzL, nidL, frz_func, frz_agg, frz_tup, frz_iface, fresh_func, fresh_agg, fresh_tup, fresh_iface, frz_ptr, frz_sl, fresh_sl, Cls.isFree, Cls.makes, callCls, chain, cond_true, tz, ty]; rfl) (vcE.step (by simp only [exC, exOps, exOp, evE, evsE, putE, wantedE, Nat.reduceEqDiff, ↓reduceIte, ROp.run, same, binA, intA, strA, eqA, indexSA, byteA, unA, bounds3, Option.map_some, Option.map_none, dec_true, dec_false, Int.toNat_natCast, Int.natCast_nonneg, beq_self_eq_true, List.append_nil, beq_iff_eq, reduceCtorEq, List.getD_cons_zero, List.getD_cons_succ, loadA, rowA, pickA, bslA, storeA_eq, decide_true, flatA, List.length_cons, List.length_nil, Nat.reduceAdd, List.flatMap_cons, List.flatMap_nil, BEq.rfl, List.cons_append, List.nil_append, if_pos, if_neg, ordered, List.getElem?_cons_zero, List.getElem?_cons_succ, frzL, nidL, frz_func, frz_agg, frz_tup, frz_iface, fresh_func, fresh_agg, fresh_tup, fresh_iface, frz_ptr, frz_sl, fresh_sl, Cls.isFree, Cls.makes, callCls, chain, cond_true, tz, ty]; rfl) ?_)
  cases f
  · refine vcE.step (by simp only [exC, exOps, exOp, evE, evsE, putE, wantedE, Nat.reduceEqDiff, ↓reduceIte, ROp.run, same, binA, intA, strA, eqA, indexSA, byteA, unA, bounds3, Option.map_some, Option.map_none, dec_true, dec_false, Int.toNat_natCast, Int.natCast_nonneg, beq_self_eq_true, List.append_nil, beq_iff_eq, reduceCtorEq, List.getD_cons_zero, List.getD_cons_succ, loadA, rowA, pickA, bslA, storeA_eq, decide_true, flatA, List.length_cons, List.length_nil, Nat.reduceAdd, List.flatMap_cons, List.flatMap_nil, BEq.rfl, List.cons_append, List.nil_append, if_pos, if_neg, ordered, List.getElem?_cons_zero, List.getElem?_cons_succ, frzL, nidL, frz_func, frz_agg, frz_tup, frz_iface, fresh_func, fresh_agg, fresh_tup, fresh_iface, frz_ptr, frz_sl, fresh_sl, Cls.isFree, Cls.makes, callCls, chain, cond_true, tz, ty]; rfl) (match_tail hs hp1 ht1 ?_ ?_ ?_)
    all_goals simp only [upd_app, Nat.reduceEqDiff, ↓reduceIte, start_app, List.getD_cons_zero, List.getD_cons_succ]
    rfl
  · refine vcE.step (by simp only [exC, exOps, exOp, evE, evsE, putE, wantedE, Nat.reduceEqDiff, ↓reduceIte, ROp.run, same, binA, intA, strA, eqA, indexSA, byteA, unA, bounds3, Option.map_some, Option.map_none, dec_true, dec_false, Int.toNat_natCast, Int.natCast_nonneg, beq_self_eq_true, List.append_nil, beq_iff_eq, reduceCtorEq, List.getD_cons_zero, List.getD_cons_succ, loadA, rowA, pickA, bslA, storeA_eq, decide_true, flatA, List.length_cons, List.length_nil, Nat.reduceAdd, List.flatMap_cons, List.flatMap_nil, BEq.rfl, List.cons_append, List.nil_append, if_pos, if_neg, ordered, List.getElem?_cons_zero, List.getElem?_cons_succ, frzL, nidL, frz_func, frz_agg, frz_tup, frz_iface, fresh_func, fresh_agg, fresh_tup, fresh_iface, frz_ptr, frz_sl, fresh_sl, Cls.isFree, Cls.makes, callCls, chain, cond_true, tz, ty]; rfl) (match_tail hs hp1 ht1 ?_ ?_ ?_)
    all_goals simp only [upd_app, Nat.reduceEqDiff, ↓reduceIte, start_app, List.getD_cons_zero, List.getD_cons_succ]

end Go.Gi
