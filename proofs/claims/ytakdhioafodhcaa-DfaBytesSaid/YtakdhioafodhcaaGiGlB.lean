/- glob.Fold, bytes.Count of one byte, bytes.Repeat of one: what they give. -/
import Derived.Test.YtakdhioafodhcaaGiGlA
import Derived.Test.YtakdhioafodhcaaGiOW
import Derived.Test.YtakdhioafodhcaaGiXE
set_option linter.unusedVariables false
set_option linter.unusedSimpArgs false
namespace Go.Gi
open Go Go.Proofs

theorem encB_cs (s : List UInt8) : encB.cs s = s.map byteA := encB.cs_map1 (fun _ => rfl) s
theorem encT_zeros (n : Nat) : zerosA [.bool false] n = encT.cs (List.replicate n false) := by
  rw [encT.cs_map1 (f := .bool) (fun _ => rfl)]
  simp [zerosA]
theorem unbyte_encB : ∀ s : List UInt8, unbyte (encB.cs s) = some s
  | [] => rfl
  | c :: s => by
    have h := c.toNat_lt
    show (if (0 : Int) ≤ c.toNat ∧ (c.toNat : Int) < 256 then (unbyte (encB.cs s)).map (UInt8.ofNat (c.toNat : Int).toNat :: ·) else none) = _
    rw [if_pos (by omega), unbyte_encB s, Int.toNat_natCast, UInt8.ofNat_toNat]
    rfl
theorem s2b_encB (hp : HP) (e : TypeId) (s : List UInt8) : s2bA hp e (.str s) = some (.sl hp.length 0 s.length 1 s.length false, hp ++ [some (.row e (encB.cs s))]) := by
  rw [encB_cs]
  rfl
/-- Bytes so far done, the others as they were. -/
def doneTo {α : Type} (f : α → α) (s : List α) (i : Nat) : List α := (s.take i).map f ++ s.drop i
theorem doneTo_len {α : Type} (f : α → α) (s : List α) (i : Nat) : (doneTo f s i).length = s.length := by
  simp only [doneTo, List.length_append, List.length_map, List.length_take, List.length_drop]
  omega
theorem doneTo_get {α : Type} {f : α → α} {s : List α} {i : Nat} {c : α} (h : s[i]? = some c) : (doneTo f s i)[i]? = some c := by
  have hlt := (List.getElem?_eq_some_iff.1 h).1
  unfold doneTo
  rw [List.getElem?_append_right (by simp; omega)]
  simp only [List.length_map, List.length_take, List.getElem?_drop]
  rw [Nat.min_eq_left (by omega), Nat.sub_self, Nat.add_zero, h]
theorem doneTo_set {α : Type} {f : α → α} {s : List α} {i : Nat} {c : α} (h : s[i]? = some c) : (doneTo f s i).set i (f c) = doneTo f s (i + 1) := by
  obtain ⟨hlt, he⟩ := List.getElem?_eq_some_iff.1 h
  unfold doneTo
  rw [List.set_append_right _ _ (by simp; omega)]
  simp only [List.length_map, List.length_take]
  rw [Nat.min_eq_left (by omega), Nat.sub_self, List.drop_eq_getElem_cons hlt, he, List.set_cons_zero, List.take_add_one, h]
  simp
theorem doneTo_zero {α : Type} (f : α → α) (s : List α) : doneTo f s 0 = s := by simp [doneTo]
theorem doneTo_all {α : Type} (f : α → α) (s : List α) : doneTo f s s.length = s.map f := by simp [doneTo]

theorem pFoldS (s : List UInt8) (hl : s.length ≤ 4611686018427387904) : PCF Try.prog 121 [.str s] (.str (s.map foldB)) := by
  refine pcf_e hmG G0_ok comp121 (by decide) (by simp) (nidL_ok rfl) ?_
  refine vcE.step (by simp only [exC, exOps, exOp, evE, evsE, putE, wantedE, Nat.reduceEqDiff, ↓reduceIte, ROp.run, same, binA, intA, strA, eqA, indexSA, byteA, unA, bounds3, Option.map_some, Option.map_none, dec_true, dec_false, Int.toNat_natCast, Int.natCast_nonneg, beq_self_eq_true, List.append_nil, beq_iff_eq, reduceCtorEq, List.getD_cons_zero, List.getD_cons_succ, loadA, rowA, pickA, bslA, litV, storeA_eq, decide_true, flatA, List.length_cons, List.length_nil, Nat.reduceAdd, List.flatMap_cons, List.flatMap_nil, BEq.rfl, List.cons_append, List.nil_append, if_pos, if_neg, ordered, List.getElem?_cons_zero, List.getElem?_cons_succ, frzL, nidL, frz_func, frz_agg, frz_tup, frz_iface, fresh_func, fresh_agg, fresh_tup, fresh_iface, frz_ptr, frz_sl, fresh_sl, Cls.isFree, Cls.makes, callCls, chain, cond_true, tz, ty]; rfl) (vcE.step (by simp only [exC, exOps, exOp, evE, evsE, putE, wantedE, Nat.reduceEqDiff, ↓reduceIte, ROp.run, same, binA, intA, strA, eqA, indexSA, byteA, unA, bounds3, Option.map_some, Option.map_none, dec_true, dec_false, Int.toNat_natCast, Int.natCast_nonneg, beq_self_eq_true, List.append_nil, beq_iff_eq, reduceCtorEq, List.getD_cons_zero, List.getD_cons_succ, loadA, rowA, pickA, bslA, litV, storeA_eq, decide_true, flatA, List.length_cons, List.length_nil, Nat.reduceAdd, List.flatMap_cons, List.flatMap_nil, BEq.rfl, List.cons_append, List.nil_append, if_pos, if_neg, ordered, List.getElem?_cons_zero, List.getElem?_cons_succ, frzL, nidL, frz_func, frz_agg, frz_tup, frz_iface, fresh_func, fresh_agg, fresh_tup, fresh_iface, frz_ptr, frz_sl, fresh_sl, Cls.isFree, Cls.makes, callCls, chain, cond_true, tz, ty, s2b_encB]; rfl) (vcE.then (fun e tm hp => e = .normal ∧ tm 3 = .sl 0 0 s.length 1 s.length false ∧ hp = [some (.row 5 (encB.cs (s.map foldB)))]) ?_ ?_))
  · refine vcE.step (by simp only [exC, exOps, exOp, evE, evsE, putE, wantedE, Nat.reduceEqDiff, ↓reduceIte, ROp.run, same, binA, intA, strA, eqA, indexSA, byteA, unA, bounds3, Option.map_some, Option.map_none, dec_true, dec_false, Int.toNat_natCast, Int.natCast_nonneg, beq_self_eq_true, List.append_nil, beq_iff_eq, reduceCtorEq, List.getD_cons_zero, List.getD_cons_succ, loadA, rowA, pickA, bslA, litV, storeA_eq, decide_true, flatA, List.length_cons, List.length_nil, Nat.reduceAdd, List.flatMap_cons, List.flatMap_nil, BEq.rfl, List.cons_append, List.nil_append, if_pos, if_neg, ordered, List.getElem?_cons_zero, List.getElem?_cons_succ, frzL, nidL, frz_func, frz_agg, frz_tup, frz_iface, fresh_func, fresh_agg, fresh_tup, fresh_iface, frz_ptr, frz_sl, fresh_sl, Cls.isFree, Cls.makes, callCls, chain, cond_true, tz, ty]; rfl) (vcE.block (vcE.count (by intro l tm hp h; simp at h)
      (fun i tm hp => tm 3 = .sl 0 0 s.length 1 s.length false ∧ tm 8 = .int .i64 s.length ∧ tm 9 = .int .i64 i ∧ hp = [some (.row 5 (encB.cs (doneTo foldB s i)))]) s.length ⟨?_, ?_, ?_, ?_⟩ ?_ ?_))
    · rfl
    · rfl
    · rfl
    · rw [doneTo_zero]
    · rintro i tm hp hi ⟨e3, e8, e9, rfl⟩
      obtain ⟨c, hc⟩ : ∃ c, s[i]? = some c := ⟨_, List.getElem?_eq_getElem hi⟩
      have hlen := doneTo_len foldB s i
      have hld := encB.sl_load1 (hp := [some (.row 5 (encB.cs (doneTo foldB s i)))]) (id := 0) (e := 5) rfl rfl (doneTo_get (f := foldB) hc) (v := .int .u8 c.toNat) rfl rfl
      have hst := encB.sl_store1 (hp := [some (.row 5 (encB.cs (doneTo foldB s i)))]) (id := 0) (e := 5) (l := doneTo foldB s i) rfl rfl (i := i) (by omega) (b := foldB c) (v := .int .u8 (foldB c).toNat) rfl (by simp)
      rw [doneTo_set hc] at hst
      simp only [loadA, rowA, List.getElem?_cons_zero] at hld
      refine vcE.ex (by simp (disch := omega) only [exC, exOps, exOp, evE, evsE, putE, wantedE, Nat.reduceEqDiff, ↓reduceIte, ROp.run, same, binA, intA, strA, eqA, indexSA, byteA, unA, bounds3, Option.map_some, Option.map_none, dec_true, dec_false, Int.toNat_natCast, Int.natCast_nonneg, beq_self_eq_true, List.append_nil, beq_iff_eq, reduceCtorEq, List.getD_cons_zero, List.getD_cons_succ, loadA, rowA, pickA, bslA, litV, storeA_eq, decide_true, flatA, List.length_cons, List.length_nil, Nat.reduceAdd, List.flatMap_cons, List.flatMap_nil, BEq.rfl, List.cons_append, List.nil_append, if_pos, if_neg, ordered, List.getElem?_cons_zero, List.getElem?_cons_succ, frzL, nidL, frz_func, frz_agg, frz_tup, frz_iface, fresh_func, fresh_agg, fresh_tup, fresh_iface, frz_ptr, frz_sl, fresh_sl, Cls.isFree, Cls.makes, callCls, chain, cond_true, tz, ty, faddrA, allocA, over, List.take_succ_cons, List.take_zero, List.drop_succ_cons, List.drop_zero, List.drop_nil, List.set_cons_zero, List.set_cons_succ, Nat.reduceLeDiff, and_self, iaddr_sl1, e3, e8, e9, ↓hld, G0_fold, ↓hst]; rfl) ?_
      refine ⟨?_, ?_, ?_, rfl⟩
      all_goals simp only [upd_app, Nat.reduceEqDiff, ↓reduceIte, e3, e8]
      all_goals rfl
    · rintro tm hp ⟨e3, e8, e9, rfl⟩
      refine vcE.ex (by simp (disch := omega) only [exC, exOps, exOp, evE, evsE, putE, wantedE, Nat.reduceEqDiff, ↓reduceIte, ROp.run, same, binA, intA, strA, eqA, indexSA, byteA, unA, bounds3, Option.map_some, Option.map_none, dec_true, dec_false, Int.toNat_natCast, Int.natCast_nonneg, beq_self_eq_true, List.append_nil, beq_iff_eq, reduceCtorEq, List.getD_cons_zero, List.getD_cons_succ, loadA, rowA, pickA, bslA, litV, storeA_eq, decide_true, flatA, List.length_cons, List.length_nil, Nat.reduceAdd, List.flatMap_cons, List.flatMap_nil, BEq.rfl, List.cons_append, List.nil_append, if_pos, if_neg, ordered, List.getElem?_cons_zero, List.getElem?_cons_succ, frzL, nidL, frz_func, frz_agg, frz_tup, frz_iface, fresh_func, fresh_agg, fresh_tup, fresh_iface, frz_ptr, frz_sl, fresh_sl, Cls.isFree, Cls.makes, callCls, chain, cond_true, tz, ty, e3, e8, e9]; rfl) ?_
      refine ⟨rfl, ?_, ?_⟩
      · simp only [upd_app, Nat.reduceEqDiff, ↓reduceIte, e3]
      · rw [doneTo_all]
  · rintro e tm hp ⟨rfl, h3, rfl⟩
    have hs := encB.sl_src (hp := [some (.row 5 (encB.cs (s.map foldB)))]) (id := 0) (e := 5) (l := s.map foldB) (lo := s.length) (ex := false) rfl
    rw [List.length_map] at hs
    have hb : b2sA [some (.row 5 (encB.cs (s.map foldB)))] (.sl 0 0 s.length 1 s.length false) = some (.str (s.map foldB)) := by
      unfold b2sA
      rw [show (1 : Nat) = encB.sz from rfl, hs]
      simp only [unbyte_encB, Option.map_some]
    refine vcE.ex (by simp only [exC, exOps, exOp, evE, evsE, putE, wantedE, Nat.reduceEqDiff, ↓reduceIte, ROp.run, same, binA, intA, strA, eqA, indexSA, byteA, unA, bounds3, Option.map_some, Option.map_none, dec_true, dec_false, Int.toNat_natCast, Int.natCast_nonneg, beq_self_eq_true, List.append_nil, beq_iff_eq, reduceCtorEq, List.getD_cons_zero, List.getD_cons_succ, loadA, rowA, pickA, bslA, litV, storeA_eq, decide_true, flatA, List.length_cons, List.length_nil, Nat.reduceAdd, List.flatMap_cons, List.flatMap_nil, BEq.rfl, List.cons_append, List.nil_append, if_pos, if_neg, ordered, List.getElem?_cons_zero, List.getElem?_cons_succ, frzL, nidL, frz_func, frz_agg, frz_tup, frz_iface, fresh_func, fresh_agg, fresh_tup, fresh_iface, frz_ptr, frz_sl, fresh_sl, Cls.isFree, Cls.makes, callCls, chain, cond_true, tz, ty, h3, hb]; rfl) ?_
    exact ⟨_, rfl, rfl⟩

end Go.Gi
