/- unicode/utf8.DecodeRune, bytes.IndexAny of * and ?: what they give. -/
import Derived.Test.YtmehgdpbcafboaaDoorGiGlI
set_option linter.unusedVariables false
set_option linter.unusedSimpArgs false
namespace Go.Gi
set_option linter.unusedSectionVars false
variable [Mx]
open Go Go.Proofs

/-- unicode/utf8.DecodeRune there. -/
theorem pDecodeRune {l : List UInt8} {c : UInt8} (h : l[0]? = some c) (hc : 128 ≤ c.toNat) : ∃ (rr : Int) (w : Nat), PCF Tryd.prog 47 [encB.S l] (.tup [.int .i32 rr, .int .i64 w]) ∧ DecP l rr w := by
  obtain ⟨rr, w, h1, h2⟩ := pDecode h hc
  refine ⟨rr, w, ?_, h2⟩
  have hl := (List.getElem?_eq_some_iff.1 h).1
  have ha : iaddrA 1 (encB.S l) (.int .i64 0) = some (.fptr (encB.cs l) 0) := enc_addr h
  have hp := enc_pick h
  have hT : TabOk Tryd.prog (Tab.none.addO 53 (.cons (.S encB) .nil) fun p => if p.1 = l then some (.rd true (.tup [.int .i32 rr, .int .i64 w])) else none) := by
    refine TabOk.addO (TabOk.none _) fun p r hr => ?_
    split at hr
    · rename_i hx
      cases hr
      show PCF _ _ [encB.S p.1] _
      rw [hx]
      exact h1
    · cases hr
  have hcall : (Tab.none.addO 53 (.cons (.S encB) .nil) fun p => if p.1 = l then some (.rd true (.tup [.int .i32 rr, .int .i64 w])) else none) 53 [encB.S l] = some (.rd true (.tup [.int .i32 rr, .int .i64 w])) := by
    refine (Tab.addO_self _ _ (.cons (.S encB) .nil) _ (l, ())).trans ?_
    rw [if_pos rfl]
  generalize (Tab.none.addO 53 (.cons (.S encB) .nil) fun p => if p.1 = l then some (.rd true (.tup [.int .i32 rr, .int .i64 w])) else none) = T at hT hcall
  refine pcf_e hmG hT comp47 (by decide) (by simp) (nidL_ok (by simp only [nidL, Enc.S_nid]; rfl)) ?_
  refine vcE.step (by simp only [exC, exOps, exOp, evE, evsE, putE, wantedE, Nat.reduceEqDiff, ↓reduceIte, ROp.run, same, binA, intA, strA, eqA, indexSA, byteA, unA, bounds3, Option.map_some, Option.map_none, dec_true, dec_false, Int.toNat_natCast, Int.natCast_nonneg, beq_self_eq_true, List.append_nil, beq_iff_eq, reduceCtorEq, List.getD_cons_zero, List.getD_cons_succ, loadA, rowA, pickA, bslA, storeA_eq, decide_true, flatA, List.length_cons, List.length_nil, Nat.reduceAdd, List.flatMap_cons, List.flatMap_nil, BEq.rfl, List.cons_append, List.nil_append, if_pos, if_neg, ordered, List.getElem?_cons_zero, List.getElem?_cons_succ, frzL, nidL, frz_func, frz_agg, frz_tup, frz_iface, fresh_func, fresh_agg, fresh_tup, fresh_iface, frz_ptr, frz_sl, fresh_sl, Cls.isFree, Cls.makes, callCls, chain, cond_true, tz, ty]; rfl) (vcE.then (fun e tm hp => e = .normal ∧ hp = [] ∧ tm 0 = encB.S l) ?_ ?_)
  · refine vcE.step (by simp only [exC, exOps, exOp, evE, evsE, putE, wantedE, Nat.reduceEqDiff, ↓reduceIte, ROp.run, same, binA, intA, strA, eqA, indexSA, byteA, unA, bounds3, Option.map_some, Option.map_none, dec_true, dec_false, Int.toNat_natCast, Int.natCast_nonneg, beq_self_eq_true, List.append_nil, beq_iff_eq, reduceCtorEq, List.getD_cons_zero, List.getD_cons_succ, loadA, rowA, pickA, bslA, storeA_eq, decide_true, flatA, List.length_cons, List.length_nil, Nat.reduceAdd, List.flatMap_cons, List.flatMap_nil, BEq.rfl, List.cons_append, List.nil_append, if_pos, if_neg, ordered, List.getElem?_cons_zero, List.getElem?_cons_succ, frzL, nidL, frz_func, frz_agg, frz_tup, frz_iface, fresh_func, fresh_agg, fresh_tup, fresh_iface, frz_ptr, frz_sl, fresh_sl, Cls.isFree, Cls.makes, callCls, chain, cond_true, tz, ty]; rfl) (vcE.block (vcE.loop (by intro l tm hp h; simp at h) (fun m tm hp => hp = [] ∧ tm 0 = encB.S l ∧ tm 6 = encB.S l ∧ tm 7 = .int .i64 l.length ∧ tm 8 = .int .i64 0 ∧ m = 0) 0 ⟨rfl, rfl, rfl, rfl, rfl, rfl⟩ ?_))
    rintro m tm hp' ⟨rfl, e0, e6, e7, e8, rfl⟩
    refine vcE.ex (by simp (disch := omega) only [exC, exOps, exOp, evE, evsE, putE, wantedE, Nat.reduceEqDiff, ↓reduceIte, ROp.run, same, binA, intA, strA, eqA, indexSA, byteA, unA, bounds3, Option.map_some, Option.map_none, dec_true, dec_false, Int.toNat_natCast, Int.natCast_nonneg, beq_self_eq_true, List.append_nil, beq_iff_eq, reduceCtorEq, List.getD_cons_zero, List.getD_cons_succ, loadA, rowA, pickA, bslA, storeA_eq, decide_true, flatA, List.length_cons, List.length_nil, Nat.reduceAdd, List.flatMap_cons, List.flatMap_nil, BEq.rfl, List.cons_append, List.nil_append, if_pos, if_neg, ordered, List.getElem?_cons_zero, List.getElem?_cons_succ, frzL, nidL, frz_func, frz_agg, frz_tup, frz_iface, fresh_func, fresh_agg, fresh_tup, fresh_iface, frz_ptr, frz_sl, fresh_sl, Cls.isFree, Cls.makes, callCls, chain, cond_true, tz, ty, e0, e6, e7, e8, ha, ↓hp]; rfl) ?_
    refine ⟨rfl, rfl, ?_⟩
    simp only [upd_app, Nat.reduceEqDiff, ↓reduceIte, e0]
  · rintro e tm hp' ⟨rfl, rfl, e0⟩
    refine vcE.ex (by simp (disch := omega) only [exC, exOps, exOp, evE, evsE, putE, wantedE, Nat.reduceEqDiff, ↓reduceIte, ROp.run, same, binA, intA, strA, eqA, indexSA, byteA, unA, bounds3, Option.map_some, Option.map_none, dec_true, dec_false, Int.toNat_natCast, Int.natCast_nonneg, beq_self_eq_true, List.append_nil, beq_iff_eq, reduceCtorEq, List.getD_cons_zero, List.getD_cons_succ, loadA, rowA, pickA, bslA, storeA_eq, decide_true, flatA, List.length_cons, List.length_nil, Nat.reduceAdd, List.flatMap_cons, List.flatMap_nil, BEq.rfl, List.cons_append, List.nil_append, if_pos, if_neg, ordered, List.getElem?_cons_zero, List.getElem?_cons_succ, frzL, nidL, frz_func, frz_agg, frz_tup, frz_iface, fresh_func, fresh_agg, fresh_tup, fresh_iface, frz_ptr, frz_sl, fresh_sl, Cls.isFree, Cls.makes, callCls, chain, cond_true, tz, ty, e0, hcall, Enc.S_nid]; rfl) ?_
    exact ⟨_, rfl, rfl⟩

/-- A rune of three or four bytes, as text. -/
theorem enc_long {rr : Int} {w : Nat} (h : (w = 3 ∧ 2048 ≤ rr ∧ rr < 65536 ∧ (rr < 55296 ∨ 57344 ≤ rr)) ∨ (w = 4 ∧ 65536 ≤ rr ∧ rr ≤ 1114111)) : (Utf8.encode rr).data.toList.length = w := by
  rcases h with ⟨rfl, h1, h2, h3⟩ | ⟨rfl, h1, h2⟩
  · have hv : Utf8.valid rr = true := by simp [Utf8.valid]; omega
    simp only [Utf8.encode, hv, if_true]
    rw [if_neg (by omega), if_neg (by omega), if_pos (by omega)]
    rfl
  · have hv : Utf8.valid rr = true := by simp [Utf8.valid]; omega
    simp only [Utf8.encode, hv, if_true]
    rw [if_neg (by omega), if_neg (by omega), if_neg (by omega)]
    rfl
/-- No rune is written as these two bytes. -/
theorem enc_ne (rr : Int) : (Utf8.encode rr).data.toList ≠ [42, 63] := by
  intro h
  unfold Utf8.encode at h
  simp only at h
  generalize (if Utf8.valid rr = true then rr.toNat else Utf8.runeError) = c at h
  split at h
  · simp at h
  split at h
  · rename_i h1 h2
    simp only [List.cons.injEq] at h
    have := congrArg UInt8.toNat h.1
    rw [UInt8.toNat_ofNat_of_lt' (show 192 + c / 64 < 256 by omega)] at this
    have e : (42 : UInt8).toNat = 42 := rfl
    omega
  split at h <;> simp at h

theorem glob0 : gv 0 = [.int .i64 Mx.m] := rfl
theorem ext_index {s : List UInt8} (h1 : 3 ≤ s.length) (h2 : (s.length : Int) ≤ Mx.m) (h3 : s.length ≤ 4) {hp : HP} : AExt Tryd.prog 48 [.str [42, 63], .str s] hp fun r hp' => r = .int .i64 (-1) ∧ hp' = hp := by
  intro Γ vs hh hl hv
  obtain ⟨v, u, rfl, hv1, hv2⟩ := hv.two'
  simp only [VRel] at hv1 hv2
  subst hv1 hv2
  refine ⟨.int .i64 (-1), _, hp, Γ, ?_, by simp only [VRel], hh, Ev.refl _ _, rfl, rfl⟩
  refine run_extern (fn := Tryd.f48) (by kernel_rfl) (by kernel_rfl) (by kernel_rfl) (by kernel_rfl) (f := Extern.BytealgIndex.index) (by kernel_rfl) _ _ ?_
  have hg := hh.gl.at_ (0, [.int .i64 Mx.m]) (by unfold globals; exact List.mem_cons_self)
  simp only [VRel] at hg
  obtain ⟨b, o, hb, _, hc⟩ := hg
  simp only [Value.pointer.injEq, Option.some.injEq, Addr.mk.injEq, Nat.add_zero, and_true] at hb
  obtain ⟨rfl, rfl⟩ := hb
  simp only [CellsAt, VRel, and_true] at hc
  obtain ⟨v, hc1, _, rfl⟩ := hc
  have hgi : Tryd.prog.globals.findIdx? (fun g => g.name == "internal/bytealg.MaxLen") = some 0 := by kernel_rfl
  have hmax : Extern.BytealgIndex.maxLen.run Tryd.prog Γ.w = .ok Mx.m Γ.w := by
    simp [Extern.BytealgIndex.maxLen, globalAddr, hgi, asInt, asIntOf, Sem.run_bind, run_load, hc1]
  have hba : ∀ l : List UInt8, (Extern.Bytes.bytesOf (.string ⟨l.toArray⟩)).run Tryd.prog Γ.w = .ok ⟨l.toArray⟩ Γ.w := fun _ => rfl
  have hs : (⟨s.toArray⟩ : ByteArray).size = s.length := rfl
  have ha : (⟨[42, 63].toArray⟩ : ByteArray).size = 2 := rfl
  have hcond : (decide (s.length < 2) || decide ((s.length : Int) > Mx.m)) = false := by simp; omega
  have he : Extern.BytealgIndex.index ⟨[.string ⟨[42, 63].toArray⟩, .string ⟨s.toArray⟩]⟩ = (do
      let a ← Extern.Bytes.bytesOf (.string ⟨[42, 63].toArray⟩)
      let b ← Extern.Bytes.bytesOf (.string ⟨s.toArray⟩)
      if b.size < 2 || (b.size : Int) > (← Extern.BytealgIndex.maxLen) then
        unsupported (.noEntry "extern/internal/bytealg.Index.length")
      if a.size ≥ 2 ^ 32 - 15 then
        unsupported (.noEntry "extern/internal/bytealg.Index: a haystack of 2^32 - 15 bytes or more")
      match (List.range (a.size + 1 - b.size)).find? fun i => a.extract i (i + b.size) == b with
      | some i => pure (goInt i)
      | none => pure (goInt (-1))) := rfl
  rw [he]
  simp only [Sem.run_bind, hba, Result.andThen_ok, hmax, hs, ha, hcond]
  have hr : 2 + 1 - s.length = 0 := by omega
  simp [hr, goInt]

end Go.Gi
