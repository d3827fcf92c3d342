/- Regions whose order is drawn, with calls told by their contracts; a map's entries gone through. -/
/- A map's keys, one by one, in whatever order (maps.Keys). -/
/- A map's keys collected and sorted: maps.Keys, slices.Collect, slices.Sorted. -/
import Derived.Test.YtakdhioafodhcaaGreatDoorGiFK
import Derived.Test.YtakdhioafodhcaaGreatDoorGiYR
import Derived.Test.YtakdhioafodhcaaGreatDoorGiSPE
set_option linter.unusedVariables false
set_option linter.unusedSimpArgs false
namespace Go.Gi
section
open Go

/-- The plan's ways lead to what K says. -/
def dvT (P : Program) (T : Tab) (n : Nat) (w : Cls) (is : List IOp) (t : Tr) (tm : Env) (hp : HP) (K : Env → HP → Prop) : Prop :=
  TabOk P T → is.all (·.inR n) = true → ∀ (l : List AV) (Q : St → Prop), Is n tm l → (∀ tm' hp' l', Is n tm' l' → K tm' hp' → Q ⟨l', hp'⟩) → vopsT P w is t ⟨l, hp⟩ Q
theorem vcE.dv {P : Program} {hint : Nat → Nat} {T : Tab} {n : Nat} {w : Cls} {is : List IOp} {t : Tr} {tm : Env} {hp : HP} {Q : Exit → Env → HP → Prop} (K : Env → HP → Prop) (h : dvT P T n w is t tm hp K) (k : ∀ tm' hp', K tm' hp' → Q .normal tm' hp') : vcE P hint T n (.regD w is t) tm hp Q :=
  vcE.drawn fun l Q' hl hq hT hr => h hT hr l Q' hl fun tm' hp' l' h1 h2 => hq _ _ _ h1 (k _ _ h2)
def takes : List Nat → Tr → Tr
  | [], t => t
  | i :: l, t => .take i (takes l t)
def pickO (is : List IOp) : List Nat → List IOp
  | [] => []
  | i :: l => match is[i]? with
    | none => pickO is l
    | some o => o :: pickO is l
section
variable {P : Program} {T : Tab} {n : Nat} {w : Cls} {is : List IOp} {t : Tr} {tm tm' : Env} {hp hp' : HP} {K : Env → HP → Prop}
theorem dvT.done (h : K tm hp) : dvT P T n w is .done tm hp K := fun _ _ l Q hl hq => by
  simp only [vopsT]
  exact hq _ _ _ hl h
theorem dvT.ops (js : List Nat) (h : exOps w T (pickO is js) tm hp = some (tm', hp')) (k : dvT P T n w is t tm' hp' K) : dvT P T n w is (takes js t) tm hp K := by
  intro hT hr
  have k' := k hT hr
  clear k
  induction js generalizing tm hp with
  | nil =>
    simp only [pickO, exOps, Option.some.injEq, Prod.mk.injEq] at h
    obtain ⟨rfl, rfl⟩ := h
    exact k'
  | cons i js ih =>
    intro l Q hl hq
    simp only [takes, vopsT, opA]
    simp only [pickO] at h
    cases hi : is[i]? with
    | none =>
      rw [hi] at h
      exact ih h l Q hl hq
    | some o =>
      rw [hi] at h
      simp only [exOps] at h
      split at h
      · rename_i tm1 hp1 h1
        have ho : o.inR n = true := List.all_eq_true.1 hr o (List.mem_of_getElem? hi)
        obtain ⟨v, h2, h3⟩ := exOp_yields (w := w) hT ho hl h1
        exact ⟨v, hp1, h2, ih h _ Q h3 hq⟩
      · cases h
/-- A call that leaves one value and one memory. -/
theorem dvT.call {i : Nat} {d : Option Nat} {xs : List Opd} {g : FuncId} {ys : List AV} {v : AV} {h : HP} (hi : is[i]? = some ⟨d, .call none, xs, none⟩) (he : evsE tm xs = .func g [] :: ys) (hc : ACalls P g ys hp fun r hp' => r = v ∧ hp' = h) (hw : match callCls w d with | .free => False | .pure => h = hp | .alloc => ∃ new, h = hp ++ new | _ => True) (k : dvT P T n w is t (putE tm d v) h K) : dvT P T n w is (.take i t) tm hp K := by
  intro hT hr l Q hl hq
  simp only [vopsT, opA, hi]
  have ho := List.all_eq_true.1 hr _ (List.mem_of_getElem? hi)
  simp only [IOp.inR, Bool.and_eq_true] at ho
  obtain ⟨⟨h1, h2⟩, h3⟩ := ho
  refine ⟨v, h, ?_, k hT hr _ Q hl.put hq⟩
  unfold YieldsA
  rw [if_pos (by rfl)]
  refine ⟨.func g [], ys, by rw [hl.evs h1, he], ?_, ?_, ?_, Or.inl (by rw [List.append_nil]; exact hc)⟩
  · intro e; rw [e] at hw; exact hw.elim
  · intro e; rw [e] at hw; exact hw
  · intro e; rw [e] at hw; exact hw
end
end
section
open Go

theorem seenN_app (l : List Nat) (a b : Nat) : seenN (l ++ [a]) b = (seenN l b || Nat.beq a b) := by
  rw [seenN_eq, seenN_eq, List.contains_append]
  simp only [List.contains_cons, List.contains_nil, Bool.or_false]
  congr 1
  rw [Bool.eq_iff_iff, beq_iff_eq, Nat.beq_eq]
  exact eq_comm
theorem candA_irrel {b : Nat} {seen : List Nat} : ∀ {es : List (AV × AV)} {bs : List Nat}, b ∉ bs → candA es bs (seen ++ [b]) = candA es bs seen
  | [], bs, _ => by simp only [candA]
  | (k, v) :: es, [], _ => by simp only [candA]
  | (k, v) :: es, b' :: bs, h => by
    simp only [List.mem_cons, not_or] at h
    have hb : Nat.beq b b' = false := by
      cases hb : Nat.beq b b'
      · rfl
      · exact absurd (Nat.eq_of_beq_eq_true hb) h.1
    simp only [candA, seenN_app, hb, Bool.or_false, candA_irrel h.2]
theorem candA_mem {seen : List Nat} {x : AV × AV × Nat} : ∀ {es : List (AV × AV)} {bs : List Nat}, x ∈ candA es bs seen → x.2.2 ∈ bs ∧ x.1 ∈ es.map (·.1)
  | [], bs, h => by simp [candA] at h
  | (k, v) :: es, [], h => by simp [candA] at h
  | (k, v) :: es, b :: bs, h => by
    simp only [candA] at h
    have tail : x ∈ candA es bs seen → x.2.2 ∈ b :: bs ∧ x.1 ∈ ((k, v) :: es).map (·.1) := fun h => by
      obtain ⟨h1, h2⟩ := candA_mem h
      exact ⟨List.mem_cons_of_mem _ h1, List.mem_cons_of_mem _ h2⟩
    cases hs : seenN seen b <;> rw [hs] at h
    · rcases List.mem_cons.1 h with rfl | h
      · exact ⟨List.mem_cons_self, List.mem_cons_self⟩
      · exact tail h
    · exact tail h
theorem cand_pick {seen : List Nat} {x : AV × AV × Nat} : ∀ {es : List (AV × AV)} {bs : List Nat}, bs.Nodup → x ∈ candA es bs seen → (candA es bs seen).Perm (x :: candA es bs (seen ++ [x.2.2])) ∧ stampA es bs x.2.2 = some (x.1, x.2.1)
  | [], bs, _, h => by simp [candA] at h
  | (k, v) :: es, [], _, h => by simp [candA] at h
  | (k, v) :: es, b :: bs, hn, h => by
    rw [List.nodup_cons] at hn
    simp only [candA] at h
    have tail : x ∈ candA es bs seen → (candA ((k, v) :: es) (b :: bs) seen).Perm (x :: candA ((k, v) :: es) (b :: bs) (seen ++ [x.2.2])) ∧ stampA ((k, v) :: es) (b :: bs) x.2.2 = some (x.1, x.2.1) := fun h => by
      obtain ⟨h1, h2⟩ := cand_pick hn.2 h
      have hne : b ≠ x.2.2 := fun e => hn.1 (by rw [e]; exact (candA_mem h).1)
      have hb1 : Nat.beq b x.2.2 = false := by
        cases hb : Nat.beq b x.2.2
        · rfl
        · exact absurd (Nat.eq_of_beq_eq_true hb) hne
      have hb2 : Nat.beq x.2.2 b = false := by
        cases hb : Nat.beq x.2.2 b
        · rfl
        · exact absurd (Nat.eq_of_beq_eq_true hb).symm hne
      refine ⟨?_, by simp only [stampA, hb1, cond_false, h2]⟩
      simp only [candA, seenN_app, hb2, Bool.or_false]
      cases seenN seen b
      · exact (h1.cons _).trans (List.Perm.swap _ _ _)
      · exact h1
    cases hs : seenN seen b <;> rw [hs] at h
    · rcases List.mem_cons.1 h with rfl | h
      · refine ⟨?_, by simp only [stampA, Nat.beq_refl, cond_true]⟩
        simp only [candA, seenN_app, hs, Nat.beq_refl, Bool.or_true, cond_true, cond_false, candA_irrel hn.1]
        exact List.Perm.refl _
      · exact tail h
    · exact tail h
theorem candA_all : ∀ {es : List (AV × AV)} {bs : List Nat}, bs.length = es.length → (candA es bs []).map (·.1) = es.map (·.1)
  | [], [], _ => rfl
  | (k, v) :: es, b :: bs, h => by
    simp only [candA, seenN, cond_false, List.map_cons, candA_all (Nat.succ.inj h)]
  | [], _ :: _, h => by cases h
  | _ :: _, [], h => by cases h

abbrev mkyR0 : List IOp := [⟨some 4, .op (.load none), [.t 1], none⟩,
  ⟨some 5, .op (.rangem), [.t 4], none⟩]
abbrev mkyR1 : List IOp := [⟨some 6, .op (.nextm), [.t 5], none⟩,
  ⟨some 7, .op (.extract 0), [.t 6], none⟩]
abbrev mkyR2 : List IOp := [⟨some 8, .op (.entm), [.t 5], none⟩,
  ⟨some 9, .op (.extract 0), [.t 8], none⟩,
  ⟨some 3, .op (.mov), [.t 9], none⟩]
abbrev mkyR3 : List IOp := [⟨some 10, .op (.mov), [.t 0], none⟩,
  ⟨some 11, .op (.mov), [.t 3], none⟩,
  ⟨some 12, .call none, [.t 10, .t 11], none⟩,
  ⟨some 13, .op (.un .not), [.t 12], none⟩]
abbrev mkyB : IC := (IC.seq (IC.reg mkyR1) (IC.seq (IC.cond (.t 7) IC.skip (IC.exit 0)) (IC.block 1 (IC.seq (IC.reg mkyR2) (IC.seq (IC.reg mkyR3) (IC.cond (.t 13) IC.ret IC.skip))))))
abbrev mkyC : IC := (IC.seq (IC.reg mkyR0) (IC.block 0 (IC.loop mkyB)))

/-- A map's births fit it. -/
structure MapOk (es : List (AV × AV)) (bs : List Nat) (c : Nat) : Prop where
  nd : bs.Nodup
  lt : ∀ b ∈ bs, b < c
  len : bs.length = es.length

section
variable {P : Program} {hp hp0 : HP} {id bx k it c : Nat} {t : TypeId} {es : List (AV × AV)} {bs seen : List Nat}
theorem nextDs_nil (hk : hp[k]? = some (some (.map es bs c))) (hi : hp[it]? = some (some (.iter [.map k] c seen c))) (ho : MapOk es bs c) (h : candA es bs seen = []) : nextDs hp (.ptr it 0) = some [(.tup [.bool false], hp)] := by
  have hb : bs.all (fun b => Nat.blt b c) = true := List.all_eq_true.2 fun b hb => Nat.ble_eq_true_of_le (ho.lt b hb)
  have hc : Nat.ble c c = true := Nat.ble_eq_true_of_le (Nat.le_refl _)
  simp only [nextDs, hi, hk, hb, hc, Bool.and_self, cond_true, h]
theorem nextDs_cons (hk : hp[k]? = some (some (.map es bs c))) (hi : hp[it]? = some (some (.iter [.map k] c seen c))) (ho : MapOk es bs c) (h : candA es bs seen ≠ []) : nextDs hp (.ptr it 0) = some ((candA es bs seen).map fun x => (.tup [.bool true, x.1, x.2.1], hp.set it (some (.iter [.map k] c (seen ++ [x.2.2]) c)))) := by
  have hb : bs.all (fun b => Nat.blt b c) = true := List.all_eq_true.2 fun b hb => Nat.ble_eq_true_of_le (ho.lt b hb)
  have hc : Nat.ble c c = true := Nat.ble_eq_true_of_le (Nat.le_refl _)
  simp only [nextDs, hi, hk, hb, hc, Bool.and_self, cond_true]
  split
  · rename_i h1; exact absurd h1 h
  · rename_i h1; rw [h1]
theorem entA_last {b : Nat} {kv : AV × AV} (hk : hp[k]? = some (some (.map es bs c))) (hi : hp[it]? = some (some (.iter [.map k] c (seen ++ [b]) c))) (h : stampA es bs b = some kv) : entA hp (.ptr it 0) = some (.tup [kv.1, kv.2]) := by
  simp only [entA, hi, List.reverse_append, List.reverse_cons, List.reverse_nil, List.nil_append, List.cons_append, hk, Nat.beq_refl, h, cond_true]

theorem keysY (hm : P.follows .mixedOrders = true) {hint : Nat → Nat} {f : FuncId} (hf : compF P hint f = some ⟨mkyC, 14, []⟩) (hbx : hp0[bx]? = some (some (.row t [.map k]))) (hk : hp0[k]? = some (some (.map es bs c))) (ho : MapOk es bs c)
    {J : List AV → HP → Prop} (h0 : J [] (hp0 ++ [some (.iter [.map k] c [] c)])) (hset : ∀ vis hp x, J vis hp → J vis (hp.set hp0.length x)) (hmap : ∀ vis hp, J vis hp → hp[k]? = some (some (.map es bs c)))
    (hround : ∀ vis key hp y, J vis hp → hp[hp0.length]? = some y → key ∈ es.map (·.1) → vis.length < es.length → ARound P id [key] hp fun r hp' => r = .bool true ∧ J (vis ++ [key]) hp' ∧ hp'[hp0.length]? = some y) :
    ACalls P f [.yld id, .ptr bx 0] hp0 fun _ hp' => ∃ vis, vis.Perm (es.map (·.1)) ∧ J vis hp' := by
  refine calls_e hm (TabOk.none _) hf (by decide) (by simp) ?_
  have hr : rangeA hp0 (.map k) = some (.ptr hp0.length 0, hp0 ++ [some (.iter [.map k] c [] c)]) := by simp only [rangeA, hk]
  have hld : loadA hp0 none (.ptr bx 0) = some (.map k) := by
    simp only [loadA, rowA, hbx, pickA]
    rfl
  refine vcE.step (by simp (disch := first | assumption | omega) only [go_sem, ↓reduceIte, Nat.reduceEqDiff, reduceCtorEq, Nat.reduceAdd, Nat.reduceLeDiff, ↓hld, hr]; rfl) (vcE.block (vcE.loop (by intro l tm hp h; simp [RetE] at h) (fun m tm hp => ∃ vis seen, m = (candA es bs seen).length ∧ (es.map (·.1)).Perm (vis ++ (candA es bs seen).map (·.1)) ∧ J vis hp ∧ hp[hp0.length]? = some (some (.iter [.map k] c seen c)) ∧ tm 0 = .yld id ∧ tm 5 = .ptr hp0.length 0) _ ⟨[], [], rfl, ?_, h0, by simp, rfl, rfl⟩ ?_))
  · rw [candA_all ho.len]
    exact List.Perm.refl _
  rintro m tm hp ⟨vis, seen, rfl, hp1, hJ, hit, t0, t5⟩
  have hkk := hmap vis hp hJ
  by_cases hc : candA es bs seen = []
  · refine vcE.seq ?_
    rw [show mkyR1 = mkyR1.take 1 ++ mkyR1.drop 1 from rfl]
    refine vcE.app (vcE.next (it := .ptr hp0.length 0) rfl (by simp only [evsE, evE, t5]) (nextDs_nil hkk hit ho hc) ?_)
    intro x hx
    rw [List.mem_singleton] at hx
    subst hx
    refine ⟨rfl, vcE.ex (by simp (disch := first | assumption | omega) only [go_sem, ↓reduceIte, Nat.reduceEqDiff, reduceCtorEq, Nat.reduceAdd, Nat.reduceLeDiff]; rfl) ?_⟩
    refine vcE.ex (by simp (disch := first | assumption | omega) only [go_sem, ↓reduceIte, Nat.reduceEqDiff, reduceCtorEq, Nat.reduceAdd, Nat.reduceLeDiff]; rfl) ?_
    rw [hc, List.map_nil, List.append_nil] at hp1
    exact ⟨_, rfl, vis, hp1.symm, hJ⟩
  · refine vcE.seq ?_
    rw [show mkyR1 = mkyR1.take 1 ++ mkyR1.drop 1 from rfl]
    refine vcE.app (vcE.next (it := .ptr hp0.length 0) rfl (by simp only [evsE, evE, t5]) (nextDs_cons hkk hit ho hc) ?_)
    intro x hx
    obtain ⟨y, hy, rfl⟩ := List.mem_map.1 hx
    obtain ⟨e1, e2⟩ := cand_pick ho.nd hy
    have hJ2 := hset vis hp (some (.iter [.map k] c (seen ++ [y.2.2]) c)) hJ
    have hk2 := hmap vis _ hJ2
    have hi2 : (hp.set hp0.length (some (.iter [.map k] c (seen ++ [y.2.2]) c)))[hp0.length]? = some (some (.iter [.map k] c (seen ++ [y.2.2]) c)) := set_get hit
    have hent := entA_last hk2 hi2 e2
    generalize hp.set hp0.length (some (.iter [.map k] c (seen ++ [y.2.2]) c)) = hp2 at hJ2 hk2 hi2 hent
    have hlen : vis.length < es.length := by
      have h1 := hp1.length_eq
      have h2 := e1.length_eq
      simp only [List.length_map, List.length_append, List.length_cons] at h1 h2
      omega
    refine ⟨rfl, vcE.ex (by simp (disch := first | assumption | omega) only [go_sem, ↓reduceIte, Nat.reduceEqDiff, reduceCtorEq, Nat.reduceAdd, Nat.reduceLeDiff]; rfl) ?_⟩
    refine vcE.step (by simp (disch := first | assumption | omega) only [go_sem, ↓reduceIte, Nat.reduceEqDiff, reduceCtorEq, Nat.reduceAdd, Nat.reduceLeDiff]; rfl) ?_
    refine vcE.block (vcE.step (by simp (disch := first | assumption | omega) only [go_sem, ↓reduceIte, Nat.reduceEqDiff, reduceCtorEq, Nat.reduceAdd, Nat.reduceLeDiff, t5, hent]; rfl) (vcE.seq ?_))
    rw [show mkyR3 = mkyR3.take 2 ++ ((mkyR3.drop 2).take 1 ++ mkyR3.drop 3) from rfl]
    refine vcE.app (vcE.ex (by simp (disch := first | assumption | omega) only [go_sem, ↓reduceIte, Nat.reduceEqDiff, reduceCtorEq, Nat.reduceAdd, Nat.reduceLeDiff, t0]; rfl) ⟨rfl, vcE.app (vcE.callY (id := id) (ys := [y.1]) rfl ?_ (hround vis y.1 hp2 _ hJ2 hi2 (candA_mem hy).2 hlen) ?_)⟩)
    · simp only [evsE, evE, upd_app, Nat.reduceEqDiff, ↓reduceIte, t0]
    · rintro r hp' ⟨rfl, hJ', hi'⟩
      refine ⟨rfl, vcE.ex (by simp (disch := first | assumption | omega) only [go_sem, ↓reduceIte, Nat.reduceEqDiff, reduceCtorEq, Nat.reduceAdd, Nat.reduceLeDiff]; rfl) ?_⟩
      refine vcE.ex (by simp (disch := first | assumption | omega) only [go_sem, ↓reduceIte, Nat.reduceEqDiff, reduceCtorEq, Nat.reduceAdd, Nat.reduceLeDiff]; rfl) ?_
      refine ⟨(candA es bs (seen ++ [y.2.2])).length, ?_, vis ++ [y.1], seen ++ [y.2.2], rfl, ?_, hJ', hi', ?_, ?_⟩
      · have h2 := e1.length_eq
        simp only [List.length_cons] at h2
        omega
      · refine hp1.trans ?_
        rw [List.append_assoc]
        exact ((e1.map _).append_left vis)
      all_goals simp only [putE, upd_app, Nat.reduceEqDiff, ↓reduceIte, t0, t5]
end
end
section
open Go

abbrev aseR0 (tb : TypeId) : List IOp := [⟨some 2, .op (.box tb), [.t 0], none⟩,
  ⟨some 4, .op (.mov), [.c (.nils)], none⟩]
abbrev aseR1 : List IOp := [⟨some 6, .op (.mov), [.t 1], none⟩]
abbrev aseR2 : List IOp := [⟨some 12, .op (.load none), [.t 2], none⟩,
  ⟨some 4, .op (.mov), [.t 12], none⟩]
abbrev aseR3 : List IOp := [⟨some 5, .op (.mov), [.t 7], none⟩]
abbrev aseR4 (e : TypeId) (bytes : Nat) : List IOp := [⟨some 8, .op (.load none), [.t 2], none⟩,
  ⟨some 9, .op (.mov), [.t 5], none⟩,
  ⟨some 10, .op (.bsl e 1 false), [.t 9], none⟩,
  ⟨some 11, .op (.app e 1 bytes), [.t 8, .t 10], none⟩,
  ⟨none, .op (.store 1), [.t 2, .t 11], none⟩]
abbrev aseC (tb : TypeId) (lk : Nat) : IC := (IC.seq (IC.reg (aseR0 tb)) (IC.seq (IC.seq (IC.reg aseR1) (IC.block 0 (IC.rangeF lk 13 (.t 6)))) (IC.seq (IC.reg aseR2) IC.ret)))
abbrev aseL (e : TypeId) (bytes : Nat) : LI := ⟨13, [7], (IC.reg aseR3), (IC.block 1 (IC.reg (aseR4 e bytes)))⟩
abbrev colR1 (fa : FuncId) : List IOp := [⟨some 3, .op (.mov), [.t 0], none⟩,
  ⟨some 4, .call none, [.f fa, .c (.nils), .t 3], none⟩,
  ⟨some 2, .op (.mov), [.t 4], none⟩]
abbrev colC (fa : FuncId) : IC := (IC.seq (IC.reg [⟨some 2, .op (.mov), [.c (.nils)], none⟩]) (IC.seq (IC.reg (colR1 fa)) IC.ret))
abbrev srdR1 (fc : FuncId) : List IOp := [⟨some 4, .op (.mov), [.t 0], none⟩,
  ⟨some 5, .call none, [.f fc, .t 4], none⟩,
  ⟨some 3, .op (.mov), [.t 5], none⟩]
abbrev srdR2 (fs : FuncId) : List IOp := [⟨some 6, .op (.mov), [.t 3], none⟩,
  ⟨some 7, .call none, [.f fs, .t 6], none⟩]
abbrev srdR3 : List IOp := [⟨some 8, .op (.mov), [.t 3], none⟩,
  ⟨some 2, .op (.mov), [.t 8], none⟩]
abbrev srdC (fc fs : FuncId) : IC := (IC.seq (IC.reg [⟨some 2, .op (.mov), [.c (.nils)], none⟩]) (IC.seq (IC.reg (srdR1 fc)) (IC.seq (IC.reg (srdR2 fs)) (IC.seq (IC.reg srdR3) IC.ret))))
abbrev kysC (tb : TypeId) (fk : FuncId) : IC := (IC.seq (IC.reg [⟨some 1, .op (.box tb), [.t 0], none⟩,
  ⟨some 2, .op (.mov), [.c (.nilf)], none⟩]) (IC.seq (IC.reg [⟨some 3, .op (.mkfn fk), [.t 1], none⟩,
  ⟨some 2, .op (.mov), [.t 3], none⟩]) IC.ret))

variable {α : Type}
/-- A list sorted. -/
def srtL (lt : α → α → Bool) (l : List α) : List α := l.mergeSort fun x y => !lt y x
theorem srtL_perm (lt : α → α → Bool) (l : List α) : (srtL lt l).Perm l := List.mergeSort_perm _ _
theorem srtL_pair {lt : α → α → Bool} (hS : Sort.SWO lt) (l : List α) : (srtL lt l).Pairwise fun x y => (!lt y x) = true := by
  refine List.pairwise_mergeSort ?_ ?_ _
  · intro a b c h1 h2
    simp only [Bool.not_eq_true'] at h1 h2 ⊢
    exact hS.ntrans c b a h2 h1
  · intro a b
    cases h : lt b a with
    | false => simp
    | true =>
      have : lt a b = false := by
        cases h2 : lt a b
        · rfl
        · have := hS.trans a b a h2 h
          rw [hS.irrefl] at this
          cases this
      simp [this]
/-- There is one sorted list. -/
theorem srtL_eq {lt : α → α → Bool} (hS : Sort.SWO lt) (ht : ∀ x y, lt x y = false → lt y x = false → x = y) {l m : List α} (hp : l.Perm m) (h : m.Pairwise fun x y => (!lt y x) = true) : srtL lt l = m := by
  refine List.Perm.eq_of_pairwise (le := fun x y => (!lt y x) = true) ?_ (srtL_pair hS l) h ((srtL_perm lt l).trans hp)
  intro a b _ _ h1 h2
  simp only [Bool.not_eq_true'] at h1 h2
  exact ht a b h2 h1
theorem srtL_congr {lt : α → α → Bool} (hS : Sort.SWO lt) (ht : ∀ x y, lt x y = false → lt y x = false → x = y) {l m : List α} (hp : l.Perm m) : srtL lt l = srtL lt m :=
  srtL_eq hS ht (hp.trans (srtL_perm lt m).symm) (srtL_pair hS m)
/-- The functions by which keys are sorted. -/
structure SdF (P : Program) (L : El1 α) (lt : α → α → Bool) where
  fy : FuncId
  fa : FuncId
  fc : FuncId
  fs : FuncId
  fd : FuncId
  less : FuncId
  T : Tab
  e : TypeId
  tb : TypeId
  bytes : Nat
  lk : Nat
  hy : Nat → Nat
  ha : Nat → Nat
  hc : Nat → Nat
  hs : Nat → Nat
  hd : Nat → Nat
  S : SrtF P less
  hT : TabOk P T
  hless : Lss L lt T less
  swo : Sort.SWO lt
  dec : AV → α
  hdec : ∀ a, dec (L.v a) = a
  tot : ∀ x y, lt x y = false → lt y x = false → x = y
  small : bytes ≤ 1000
  cy : compF P hy fy = some ⟨mkyC, 14, []⟩
  ca : compF P ha fa = some ⟨aseC tb lk, 13, [.t 4]⟩
  ka : KeysF P ha fa
  la : LOk P lk (aseL e bytes)
  cc : compF P hc fc = some ⟨colC fa, 5, [.t 2]⟩
  cs : compF P hs fs = some ⟨srtC S.fbl S.fpdq, srtN, []⟩
  cd : compF P hd fd = some ⟨srdC fc fs, 9, [.t 2]⟩
section
variable {P : Program} {L : El1 α} {lt : α → α → Bool} {hp : HP} {bx k c : Nat} {t : TypeId} {es : List (AV × AV)} {bs : List Nat} {ks : List α}

/-- What has been collected. -/
def AJ (L : El1 α) (e tb : TypeId) (lk : Nat) (hp : HP) (N : Nat) (lst : List AV) (vis : List AV) (H : HP) : Prop :=
  ∃ l sl, vis = l.map L.v ∧ (∀ j, j < hp.length → H[j]? = hp[j]?) ∧ H[hp.length]? = some (some (.row tb [bld sl l.length 1])) ∧ H[hp.length + 1]? = some (some (.loop lst lk .ready none)) ∧ BldAt L.E H sl e l ∧ hp.length + 3 ≤ sl ∧ l.length ≤ N
theorem AJ.set {e tb : TypeId} {lk N : Nat} {lst vis : List AV} {H : HP} (h : AJ L e tb lk hp N lst vis H) (x : Option Blk) : AJ L e tb lk hp N lst vis (H.set (hp.length + 2) x) := by
  obtain ⟨l, sl, h1, h2, h3, h4, h5, h6, h7⟩ := h
  refine ⟨l, sl, h1, fun j hj => by rw [List.getElem?_set_ne (by omega)]; exact h2 j hj, by rw [set_get_ne (by omega)]; exact h3, by rw [set_get_ne (by omega)]; exact h4, ?_, h6, h7⟩
  rcases h5 with h | h
  · exact .inl h
  · exact .inr (by rw [set_get_ne (by omega)]; exact h)

theorem store_one {hp : HP} {id : Nat} {e : TypeId} {x v : AV} (h : hp[id]? = some (some (.row e [x]))) (hc : cellsA v = [v]) (hn : ∀ vs, v ≠ .tup vs) : storeA hp 1 (.ptr id 0) v = some (hp.set id (some (.row e [v]))) := by
  cases v
  case tup vs => exact absurd rfl (hn vs)
  all_goals simp only [storeA, h, hc, List.length_singleton, Nat.zero_add, Nat.le_refl, and_self, if_true]; rfl
theorem SdF.perm_dec (F : SdF P L lt) {l ks : List α} (h : (l.map L.v).Perm (ks.map L.v)) : l.Perm ks := by
  have := h.map F.dec
  simpa only [List.map_map, Function.comp_def, F.hdec, List.map_id'] using this
variable [Inhabited α]
theorem src_el (L : El1 α) {hp : HP} {e : TypeId} {a : α} {ex : Bool} : srcA (hp ++ [some (.row e [L.v a])]) 1 (.sl hp.length 0 1 1 1 ex) = some (L.E.cs [a], 1) := by
  have h : L.E.cs [a] = [L.v a] := by simp [Enc.cs, L.hv]
  have := L.E.sl_src (hp := hp ++ [some (.row e [L.v a])]) (id := hp.length) (e := e) (l := [a]) (lo := 1) (ex := ex) (by rw [h]; simp)
  rw [L.sz] at this
  exact this

theorem ase_round (hm : P.follows .mixedOrders = true) {lk : Nat} {e tb : TypeId} {bytes : Nat} (hsm : bytes ≤ 1000) (hL : LOk P lk (aseL e bytes)) {N : Nat} (hN : N ≤ 1000000) {lst : List AV} {tm0 : Env} (hl : Is 13 tm0 lst) (h2 : tm0 2 = .ptr hp.length 0) {vis : List AV} {H : HP} {y : Option Blk} {a : α} (hJ : AJ L e tb lk hp N lst vis H) (hy : H[hp.length + 2]? = some y) (hlt : vis.length < N) :
    ARound P (hp.length + 1) [L.v a] H fun r H' => r = .bool true ∧ AJ L e tb lk hp N lst (vis ++ [L.v a]) H' ∧ H'[hp.length + 2]? = some y := by
  obtain ⟨l, sl, rfl, hfr, g0, g1, hb, hsl, hln⟩ := hJ
  rw [List.length_map] at hlt
  refine round_e hm (TabOk.none _) hL g1 rfl (tm := upd tm0 7 (L.v a)) (hl.setP 7 _) ?_
  intro hint
  refine vcE.ex (by simp (disch := first | assumption | omega) only [go_sem, ↓reduceIte, Nat.reduceEqDiff, reduceCtorEq, Nat.reduceAdd, Nat.reduceLeDiff]; rfl) ?_
  refine ⟨rfl, lst, _, none, g1, ?_⟩
  generalize hh : H.set (hp.length + 1) (some (.loop lst lk .busy none)) = H1
  have hlen1 : H1.length = H.length := by rw [← hh]; simp
  have g2 := get_lt hy
  have k0 : H1[hp.length]? = some (some (.row tb [bld sl l.length 1])) := by rw [← hh, set_get_ne (by omega)]; exact g0
  have k1 : H1[hp.length + 1]? = some (some (.loop lst lk .busy none)) := by rw [← hh]; exact set_get g1
  have k2 : H1[hp.length + 2]? = some y := by rw [← hh, set_get_ne (by omega)]; exact hy
  have kf : ∀ j, j < hp.length → H1[j]? = hp[j]? := fun j hj => by rw [← hh, List.getElem?_set_ne (by omega)]; exact hfr j hj
  have kb : BldAt L.E H1 sl e l := by
    rcases hb with hb | hb
    · exact .inl hb
    · exact .inr (by rw [← hh, set_get_ne (by omega)]; exact hb)
  have hbig : (l.length + [a].length) * bytes ≤ 140737488355328 := by
    have h1 : (l.length + [a].length) * bytes ≤ 1000001 * 1000 := Nat.mul_le_mul (by simp; omega) hsm
    omega
  have happ := (kb.app [some (.row e [L.v a])]).more (bytes := bytes) (m := [a]) (by have := src_el L (hp := H1) (e := e) (a := a) (ex := true); rw [L.sz]; exact this) (by simp) hbig (by simp; omega)
  simp only [L.sz] at happ
  have hother : ∀ j y, H1[j]? = some y → (l = [] ∨ j ≠ sl) → (bldH (H1 ++ [some (.row e [L.v a])]) sl l.length (.row e (L.E.cs (l ++ [a]))))[j]? = some y := fun j y h h' => bldH_other (app_get h) (h'.imp (fun e => by rw [e]; rfl) fun h => h)
  have hne : ∀ j, j < hp.length + 3 → (l = [] ∨ j ≠ sl) := fun j hj => .inr (by omega)
  have e0 := hother _ _ k0 (hne _ (by omega))
  have e1 := hother _ _ k1 (hne _ (by omega))
  have e2 := hother _ _ k2 (hne _ (by omega))
  have hat := BldAt.moreAt L.E (H1 ++ [some (.row e [L.v a])]) sl l.length e (l ++ [a])
  have hlen2 : (H1 ++ [some (Blk.row e [L.v a])]).length = H1.length + 1 := by simp
  have hld : loadA H1 none (.ptr hp.length 0) = some (bld sl l.length 1) := by
    simp only [loadA, rowA, k0, pickA, List.getElem?_cons_zero, bld_one, if_true]
  have hnt : notTup (L.v a) = true := by
    have := L.nt a
    cases h : L.v a
    case tup vs => exact absurd h (this vs)
    all_goals rfl
  have hce : cellsA (L.v a) = [L.v a] := (L.ce a).trans (L.hv a)
  have hl1 : ([L.v a].length == 1) = true := rfl
  have hst : storeA (bldH (H1 ++ [some (.row e [L.v a])]) sl l.length (.row e (L.E.cs (l ++ [a])))) 1 (.ptr hp.length 0) (bld (H1 ++ [some (Blk.row e [L.v a])]).length (l ++ [a]).length 1) = some ((bldH (H1 ++ [some (.row e [L.v a])]) sl l.length (.row e (L.E.cs (l ++ [a])))).set hp.length (some (.row tb [bld (H1 ++ [some (Blk.row e [L.v a])]).length (l ++ [a]).length 1]))) :=
    store_one e0 (bld_cells _ _ _) (bld_notTup _ _ _)
  refine vcE.ex (by simp (disch := first | assumption | omega) only [exC, exOps, exOp, wantedE, ↓reduceIte, ROp.run, evsE, evE, ty, Nat.reduceEqDiff, h2, same, ↓hld, Option.map_some, putE, bslA, hnt, hce, List.length_cons, List.length_nil, beq_self_eq_true, Bool.and_true, flatA, List.flatMap_cons, List.flatMap_nil, List.append_nil, ↓happ, ↓hst]; rfl) ?_
  refine ⟨none, lst, _, .busy, none, rfl, by rw [set_get_ne (by omega)]; exact e1, rfl, ⟨l ++ [a], (H1 ++ [some (Blk.row e [L.v a])]).length, by simp, ?_, ?_, ?_, ?_, by omega, by simp; omega⟩, ?_⟩
  · intro j hj
    have hjH : j < H1.length := by omega
    rw [List.getElem?_set_ne (by omega), List.getElem?_set_ne (by omega), hother j _ (List.getElem?_eq_getElem hjH) (hne j (by omega)), ← kf j hj, List.getElem?_eq_getElem hjH]
  · rw [set_get_ne (by omega), set_get e0, List.length_append]
  · rw [set_get (y := some (.loop lst lk .busy none)) (by rw [set_get_ne (by omega)]; exact e1)]
    rfl
  · rcases hat with h | h
    · simp at h
    · exact .inr (by rw [set_get_ne (by omega), set_get_ne (by omega)]; exact h)
  · rw [set_get_ne (by omega), set_get_ne (by omega)]
    exact e2
theorem SdF.ase (hm : P.follows .mixedOrders = true) (F : SdF P L lt) (hbx : hp[bx]? = some (some (.row t [.map k]))) (hk : hp[k]? = some (some (.map es bs c))) (ho : MapOk es bs c) (hks : es.map (·.1) = ks.map L.v) (hN : ks.length ≤ 1000000) :
    ACalls P F.fa [.nils, .func F.fy [.ptr bx 0]] hp fun r H => ∃ l sl, l.Perm ks ∧ r = bld sl l.length 1 ∧ BldAt L.E H sl F.e l ∧ hp.length ≤ sl ∧ (∀ j, j < hp.length → H[j]? = hp[j]?) ∧ hp.length ≤ H.length := by
  have hel : es.length = ks.length := by
    have := congrArg List.length hks
    simpa using this
  refine calls_k hm (TabOk.none _) F.ca F.ka (by rfl) (by simp) ?_
  refine vcE.step (by simp (disch := first | assumption | omega) only [go_sem, ↓reduceIte, Nat.reduceEqDiff, reduceCtorEq, Nat.reduceAdd, Nat.reduceLeDiff]; rfl) (vcE.then (fun e tm H => e = .normal ∧ tm 2 = .ptr hp.length 0 ∧ ∃ l sl, l.Perm ks ∧ H[hp.length]? = some (some (.row F.tb [bld sl l.length 1])) ∧ BldAt L.E H sl F.e l ∧ hp.length ≤ sl ∧ (∀ j, j < hp.length → H[j]? = hp[j]?)) ?_ ?_)
  · refine vcE.step (by simp (disch := first | assumption | omega) only [go_sem, ↓reduceIte, Nat.reduceEqDiff, reduceCtorEq, Nat.reduceAdd, Nat.reduceLeDiff]; rfl) (vcE.block (vcE.rangeF (g := F.fy) (caps := [.ptr bx 0]) ?_ ?_))
    · simp only [evE, upd_app, Nat.reduceEqDiff, ↓reduceIte]
    · intro lst hl
      have hln : (hp ++ [some (Blk.row F.tb [.nils])]).length = hp.length + 1 := by simp
      have hln2 : ((hp ++ [some (Blk.row F.tb [.nils])]) ++ [some (Blk.loop lst F.lk .ready none)]).length = hp.length + 2 := by simp
      have hk2 := get_lt hk
      simp only [hln]
      refine (keysY (hp0 := (hp ++ [some (Blk.row F.tb [.nils])]) ++ [some (.loop lst F.lk .ready none)]) hm F.cy (app_get (app_get hbx)) (app_get (app_get hk)) ho (J := AJ L F.e F.tb F.lk hp ks.length lst) ⟨[], hp.length + 3, rfl, ?_, ?_, ?_, .inl rfl, Nat.le_refl _, Nat.zero_le _⟩ ?_ ?_ ?_).mono ?_
      · intro j hj
        rw [List.getElem?_append_left (by simp; omega), List.getElem?_append_left (by simp; omega), List.getElem?_append_left hj]
      · rw [List.getElem?_append_left (by simp), List.getElem?_append_left (by simp)]
        simp [bld]
      · rw [List.getElem?_append_left (by simp)]
        simp
      · intro vis H x hJ
        rw [hln2]
        exact hJ.set x
      · rintro vis H ⟨l, sl, h1, h2, _⟩
        rw [h2 k hk2]
        exact hk
      · intro vis key H y hJ hy hkey hlt
        rw [hln2] at hy ⊢
        rw [hks] at hkey
        obtain ⟨a, _, rfl⟩ := List.mem_map.1 hkey
        exact ase_round hm F.small F.la hN hl (by simp only [upd_app, Nat.reduceEqDiff, ↓reduceIte]) hJ hy (by omega)
      · rintro r H ⟨vis, hp1, l, sl, rfl, h2, h3, h4, h5, h6, h7⟩
        rw [hks] at hp1
        refine ⟨lst, _, .ready, none, h4, by simp, rfl, by simp only [upd_app, Nat.reduceEqDiff, ↓reduceIte], l, sl, F.perm_dec hp1, ?_, ?_, by omega, ?_⟩
        · rw [set_get_ne (by omega)]
          exact h3
        · rcases h5 with h | h
          · exact .inl h
          · exact .inr (by rw [set_get_ne (by omega)]; exact h)
        · intro j hj
          rw [List.getElem?_set_ne (by omega)]
          exact h2 j hj
  · rintro e tm H ⟨rfl, t2, l, sl, h1, h2, h3, h4, h5⟩
    have hld : loadA H none (.ptr hp.length 0) = some (bld sl l.length 1) := by
      simp only [loadA, rowA, h2, pickA, List.getElem?_cons_zero, bld_one, if_true]
    refine vcE.ex (by simp (disch := first | assumption | omega) only [go_sem, ↓reduceIte, Nat.reduceEqDiff, reduceCtorEq, Nat.reduceAdd, Nat.reduceLeDiff, t2, ↓hld]; rfl) ?_
    exact ⟨_, rfl, l, sl, h1, rfl, h3, h4, h5, by have := get_lt h2; omega⟩
theorem SdF.col (hm : P.follows .mixedOrders = true) (F : SdF P L lt) (hbx : hp[bx]? = some (some (.row t [.map k]))) (hk : hp[k]? = some (some (.map es bs c))) (ho : MapOk es bs c) (hks : es.map (·.1) = ks.map L.v) (hN : ks.length ≤ 1000000) :
    ACalls P F.fc [.func F.fy [.ptr bx 0]] hp fun r H => ∃ l sl, l.Perm ks ∧ r = bld sl l.length 1 ∧ BldAt L.E H sl F.e l ∧ hp.length ≤ sl ∧ (∀ j, j < hp.length → H[j]? = hp[j]?) ∧ hp.length ≤ H.length := by
  refine calls_e hm (TabOk.none _) F.cc (by rfl) (by simp) ?_
  refine vcE.step (by simp (disch := first | assumption | omega) only [go_sem, ↓reduceIte, Nat.reduceEqDiff, reduceCtorEq, Nat.reduceAdd, Nat.reduceLeDiff]; rfl) (vcE.seq ?_)
  rw [show colR1 F.fa = (colR1 F.fa).take 1 ++ (((colR1 F.fa).drop 1).take 1 ++ (colR1 F.fa).drop 2) from rfl]
  refine vcE.app (vcE.ex (by simp (disch := first | assumption | omega) only [go_sem, ↓reduceIte, Nat.reduceEqDiff, reduceCtorEq, Nat.reduceAdd, Nat.reduceLeDiff]; rfl) ⟨rfl, vcE.app (vcE.call (f := F.fa) (caps := []) (ys := [.nils, .func F.fy [.ptr bx 0]]) rfl ?_ (F.ase hm hbx hk ho hks hN) ?_)⟩)
  · simp only [evsE, evE, upd_app, Nat.reduceEqDiff, ↓reduceIte]
  · rintro r H ⟨l, sl, h1, rfl, h3⟩
    refine ⟨rfl, vcE.ex (by simp (disch := first | assumption | omega) only [go_sem, ↓reduceIte, Nat.reduceEqDiff, reduceCtorEq, Nat.reduceAdd, Nat.reduceLeDiff]; rfl) ?_⟩
    refine vcE.ex (by simp (disch := first | assumption | omega) only [go_sem, ↓reduceIte, Nat.reduceEqDiff, reduceCtorEq, Nat.reduceAdd, Nat.reduceLeDiff]; rfl) ?_
    exact ⟨_, rfl, l, sl, h1, rfl, h3⟩
/-- Keys sorted. -/
theorem SdF.sorted (hm : P.follows .mixedOrders = true) (F : SdF P L lt) (hbx : hp[bx]? = some (some (.row t [.map k]))) (hk : hp[k]? = some (some (.map es bs c))) (ho : MapOk es bs c) (hks : es.map (·.1) = ks.map L.v) (hN : ks.length ≤ 1000000) :
    ACalls P F.fd [.func F.fy [.ptr bx 0]] hp fun r H => ∃ sl, r = bld sl ks.length 1 ∧ BldAt L.E H sl F.e (srtL lt ks) ∧ hp.length ≤ sl ∧ (∀ j, j < hp.length → H[j]? = hp[j]?) ∧ hp.length ≤ H.length := by
  refine calls_e hm (TabOk.none _) F.cd (by rfl) (by simp) ?_
  refine vcE.step (by simp (disch := first | assumption | omega) only [go_sem, ↓reduceIte, Nat.reduceEqDiff, reduceCtorEq, Nat.reduceAdd, Nat.reduceLeDiff]; rfl) (vcE.seq ?_)
  rw [show srdR1 F.fc = (srdR1 F.fc).take 1 ++ (((srdR1 F.fc).drop 1).take 1 ++ (srdR1 F.fc).drop 2) from rfl]
  refine vcE.app (vcE.ex (by simp (disch := first | assumption | omega) only [go_sem, ↓reduceIte, Nat.reduceEqDiff, reduceCtorEq, Nat.reduceAdd, Nat.reduceLeDiff]; rfl) ⟨rfl, vcE.app (vcE.call (f := F.fc) (caps := []) (ys := [.func F.fy [.ptr bx 0]]) rfl ?_ (F.col hm hbx hk ho hks hN) ?_)⟩)
  · simp only [evsE, evE, upd_app, Nat.reduceEqDiff, ↓reduceIte]
  · rintro r H ⟨l, sl, h1, rfl, h3, h4, h5, h6⟩
    have hll := h1.length_eq
    refine ⟨rfl, vcE.ex (by simp (disch := first | assumption | omega) only [go_sem, ↓reduceIte, Nat.reduceEqDiff, reduceCtorEq, Nat.reduceAdd, Nat.reduceLeDiff]; rfl) ?_⟩
    refine vcE.seq ?_
    rw [show srdR2 F.fs = (srdR2 F.fs).take 1 ++ (srdR2 F.fs).drop 1 from rfl]
    have hs0 : Srt L F.e sl H H l.toArray := ⟨h3.imp (fun h => by rw [h]; rfl) fun h => h, fun _ _ _ => rfl, Nat.le_refl _⟩
    have hsla : SlA sl l.toArray (bld sl l.length 1) := by
      refine ⟨fun i hi => ?_, by rw [List.size_toArray]; omega⟩
      rw [List.size_toArray] at hi
      rw [bld_pos (by omega)]
      exact iaddr_sl1 hi
    refine vcE.app (vcE.ex (by simp (disch := first | assumption | omega) only [go_sem, ↓reduceIte, Nat.reduceEqDiff, reduceCtorEq, Nat.reduceAdd, Nat.reduceLeDiff]; rfl) ⟨rfl, vcE.call (f := F.fs) (caps := []) (ys := [bld sl l.length 1]) rfl ?_ (srt_calls hm F.hT F.hless F.swo F.S F.cs hs0 hsla (fun hp => by rw [bld_len, List.size_toArray]) (bld_fits _ _ _)) ?_⟩)
    · simp only [evsE, evE, upd_app, Nat.reduceEqDiff, ↓reduceIte]
    · rintro r H2 hd
      obtain ⟨rfl, hs⟩ := Done.eq F.swo F.tot hd
      have he : (l.mergeSort fun x y => !lt y x) = srtL lt ks := srtL_congr F.swo F.tot h1
      refine vcE.ex (by simp (disch := first | assumption | omega) only [go_sem, ↓reduceIte, Nat.reduceEqDiff, reduceCtorEq, Nat.reduceAdd, Nat.reduceLeDiff]; rfl) ?_
      refine ⟨_, rfl, sl, by simp only [upd_app, Nat.reduceEqDiff, ↓reduceIte, hll], ?_, h4, ?_, ?_⟩
      · have := hs.row
        rw [he] at this
        exact this.imp (fun h => List.eq_nil_of_length_eq_zero h) fun h => h
      · intro j hj
        rw [hs.oth j (by omega) (by omega)]
        exact h5 j hj
      · have := hs.len
        omega
theorem kys_calls (hm : P.follows .mixedOrders = true) {hint : Nat → Nat} {f fy : FuncId} {tb : TypeId} (hf : compF P hint f = some ⟨kysC tb fy, 4, [.t 2]⟩) : ACalls P f [.map k] hp fun r H => r = .func fy [.ptr hp.length 0] ∧ H = hp ++ [some (.row tb [.map k])] := by
  refine calls_e hm (TabOk.none _) hf (by rfl) (by simp) ?_
  refine vcE.ex (by simp (disch := first | assumption | omega) only [go_sem, ↓reduceIte, Nat.reduceEqDiff, reduceCtorEq, Nat.reduceAdd, Nat.reduceLeDiff]; rfl) ?_
  exact ⟨_, rfl, rfl, rfl⟩
end
end
end Go.Gi
