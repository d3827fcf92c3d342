/- Loops over functions, told by what is so behind each round. -/
import Derived.Test.YtakdhioafodhcaaGreatDoorGiXA
import Derived.Test.YtakdhioafodhcaaGreatDoorGiOW
set_option linter.unusedVariables false
set_option linter.unusedSimpArgs false
namespace Go.Gi
open Go

/-- The statement 'for .. := range f': its record; the one call; the jump that a round has left. -/
theorem AW.rangeK {P : Program} {f : Operand} {o : Opd} (ho : opdP f = some o) {key : Nat} {ps : Array Tmp} {assign body : Code} (hk : lcP P key = ⟨ps, assign, body⟩) {st : St} {fv : AV} (hv : o.ev st.tm = fv) {K : AV → HP → Prop}
    (hcall : RCall P fv st.hp.length (st.hp ++ [some (.loop st.tm key .ready none)]) K)
    {Q : Exit → St → Prop} (hK : ∀ r hp2, K r hp2 → ∃ tms' key' ls pend, hp2[st.hp.length]? = some (some (.loop tms' key' ls pend)) ∧ ls ≠ .busy ∧ match (pend : Option (Option Nat)) with
      | none => Q .normal ⟨st.tm, hp2.set st.hp.length (some (.loop tms' key' .exhausted pend))⟩
      | some none => Q .ret ⟨st.tm, hp2.set st.hp.length (some (.loop tms' key' .exhausted pend))⟩
      | some (some i) => Q (.exit i) ⟨st.tm, hp2.set st.hp.length (some (.loop tms' key' .exhausted pend))⟩) : AW P (.rangeFunc f ps assign body) st Q := by
  intro q Γ a hp hs hl
  have hq0 : q = none := hp.resolve_right (by simp [plainC])
  subst hq0
  show (Code.rangeFunc f ps assign body).wpIn Fence.wide 0 P _ a Γ.w
  refine wpIn_rangeFunc ?_
  intro fn _
  -- the two new blocks
  obtain ⟨hA, eA⟩ := hs.hp.newOther (.deferred (some []))
  let Γ1 : Cx := Γ.alloc (.deferred (some []))
  let obj : Obj := .loop { state := .ready, pending := none, fn := fn, tmps := a.tmps, params := ps, assign := assign, body := body, defers := Γ.w.heap.size }
  have hlc : Γ.lc key = ⟨ps, assign, body⟩ := by rw [hl, hk]
  let Γ2 : Cx := (Γ1.alloc obj).know (Γ1.w.heap.size, 0)
  have hsz : Γ1.w.heap.size = Γ.w.heap.size + 1 := by simp [Γ1, Cx.alloc, alloc_size]
  have le12 : Le Γ1 Γ2 := (Le.alloc hA.fz obj).trans (Le.know _ _)
  have hB : HSim Γ2 (st.hp ++ [some (.loop st.tm key .ready none)]) ∧ Ev Γ1 st.hp Γ2 (st.hp ++ [some (.loop st.tm key .ready none)]) := by
    refine hA.new obj (.loop st.tm key .ready none) ?_
    simp only [BRel]
    refine ⟨fn, a.tmps.toList, Γ.w.heap.size, ?_, (hs.tm.le eA.le).le le12⟩
    have : (Γ2.w).heap[Γ1.w.heap.size]? = some obj := alloc_new _ _
    have hl2 : Γ2.lc key = ⟨ps, assign, body⟩ := hlc
    show Γ2.w.heap[Γ1.w.heap.size]? = _
    rw [this, hl2]
    simp only [obj, pendC]
  obtain ⟨hB1, eB⟩ := hB
  have eAB : Ev Γ st.hp Γ2 (st.hp ++ [some (.loop st.tm key .ready none)]) := eA.trans eB
  have hn : Γ1.n = st.hp.length := hA.len.symm
  have hyld : VRel Γ2 (.yld st.hp.length) (.func (.yield (Γ.w.heap.size + 1)) #[] #[]) := by
    simp only [VRel]
    refine ⟨by show st.hp.length < Γ1.n + 1; omega, ?_⟩
    have : (Γ2.β st.hp.length).1 = Γ1.w.heap.size := by simp [Γ2, Cx.know, Cx.alloc, hn]
    rw [this, hsz]
  have hfv : VRel Γ fv (a.eval f) := by rw [← hv]; exact opd_rel hs.hp.gl hs.tm ho
  -- what the call's function is
  have hfun : ∃ (g : FuncId) (xs : List AV) (first caps : List Value), a.eval f = .func (.func g) ⟨first⟩ ⟨caps⟩ ∧ VRels Γ2 xs (first ++ .func (.yield (Γ.w.heap.size + 1)) #[] #[] :: caps) ∧ ACalls P g xs (st.hp ++ [some (.loop st.tm key .ready none)]) K := by
    cases fv <;> simp only [RCall] at hcall
    case func g caps =>
      simp only [VRel] at hfv
      obtain ⟨vs, h1, h2⟩ := hfv
      refine ⟨g, _, [], vs, h1, ?_, hcall⟩
      simp only [List.nil_append, VRels]
      exact ⟨_, _, rfl, hyld, h2.le eAB.le⟩
    case bound g first =>
      simp only [VRel] at hfv
      obtain ⟨vs, h1, h2⟩ := hfv
      refine ⟨g, _, vs, [], h1, ?_, hcall⟩
      exact (h2.le eAB.le).append (by simp only [VRels]; exact ⟨_, _, rfl, hyld, rfl⟩)
  obtain ⟨g, xs, first, caps, hf, hxs, hac⟩ := hfun
  obtain ⟨⟨gfn, hgfn, hname, hbody⟩, hc⟩ := hac
  have hw2 : Γ2.w = (Γ.w.alloc (.deferred (some []))).alloc obj := rfl
  refine ⟨Γ.w.heap.size + 1, [{ target := .collected Γ.w.heap.size, args := #[] }], Γ2.w, { target := .fn (.func g) ⟨caps⟩, args := ⟨first⟩ ++ #[.func (.yield (Γ.w.heap.size + 1)) #[] #[]] }, Γ2.w, g, ⟨first ++ .func (.yield (Γ.w.heap.size + 1)) #[] #[] :: caps⟩, Γ2.w, ?_, ?_, fun _ _ => trivial, ?_, (by intro h; cases h), ?_⟩
  · exact run_enterLoop_outer _ _ _ _ _
  · simp only [resolve, hf]
    simp [Deferred.ofValue, Act.eval]
  · have hn' : ¬ gfn.name = "runtime.NumGoroutine" := by simpa using hname
    have hb' : ¬ gfn.body = none := by intro hb; rw [hb] at hbody; cases hbody
    simp [invoke, callFunc, hgfn, hn', hb']
  · refine Fw_calls none (Calls.mono (hc Γ2 _ hB1 (eAB.le.lc.trans hl) hxs) ?_)
    rintro e w' ⟨v, a2, b2, Δ, rfl, rfl, h5, h6, h7, hkk⟩
    obtain ⟨tms', key', ls, pend, hb, hne, hq⟩ := hK _ _ hkk
    obtain ⟨fn', vs', d', e1, e2, turn⟩ := loop_turn h6 hb
    obtain ⟨hT, eT⟩ := turn .exhausted pend
    have hβ : (Δ.β st.hp.length).1 = Γ.w.heap.size + 1 := by
      rw [h7.le.β _ (by show st.hp.length < Γ1.n + 1; omega)]
      have : (Γ2.β st.hp.length).1 = Γ1.w.heap.size := by simp [Γ2, Cx.know, Cx.alloc, hn]
      rw [this, hsz]
    have hend := run_endLoop (P := P) e1 hne
    rw [hβ] at hend
    refine ⟨pendC pend, _, hend, ?_⟩
    -- the state behind
    let o' : Obj := .loop { state := .exhausted, pending := pendC pend, fn := fn', tmps := ⟨vs'⟩, params := (Δ.lc key').params, assign := (Δ.lc key').assign, body := (Δ.lc key').body, defers := d' }
    let Θ : Cx := Δ.setB (Δ.β st.hp.length).1 o'
    have eΘ : Ev Γ st.hp Θ (b2.set st.hp.length (some (.loop tms' key' .exhausted pend))) := (eAB.trans h7).trans eT
    have hwΘ : Θ.w = Δ.w.putObj (Γ.w.heap.size + 1) o' := by
      show setB Δ.w (Δ.β st.hp.length).1 o' = _
      rw [hβ]
      rfl
    have marks : MarksOk Θ (b2.set st.hp.length (some (.loop tms' key' .exhausted pend))) ({ target := .collected Γ.w.heap.size, args := #[] } :: a.defers) := by
      obtain ⟨q0, ks, q1, q2, q3⟩ := hs.df.ev eΘ
      have old := hs.df
      have hk0 : Γ1.w.heap[Γ.w.heap.size]? = some (.deferred (some [])) := alloc_new _ _
      have hk1 : MarksOk Γ1 st.hp [{ target := .collected Γ.w.heap.size, args := #[] }] := by
        refine ⟨Nat.le_trans hs.df.1 eA.size, [Γ.w.heap.size], rfl, by simp, fun k hk => ?_⟩
        simp only [List.mem_singleton] at hk
        subst hk
        refine ⟨hk0, ?_, ?_, hs.df.1⟩
        · rintro ⟨i, x, hx, e⟩
          have := (hs.hp.blk i x hx).2.2
          have e' : (Γ.β i).1 = Γ.w.heap.size := e
          omega
        · intro hf
          have := hs.hp.fz _ hf
          omega
      obtain ⟨_, ks1, p1, p2, p3⟩ := hk1.ev ((eB.trans h7).trans eT)
      have hks1 : ks1 = [Γ.w.heap.size] := by
        rcases ks1 with _ | ⟨x, _ | ⟨y, l⟩⟩ <;> simp at p1
        rw [← p1]
      refine ⟨q0, Γ.w.heap.size :: ks, by rw [q1]; rfl, ?_, ?_⟩
      · rw [List.nodup_cons]
        refine ⟨fun hm => ?_, q2⟩
        obtain ⟨_, ks0, o1, o2, o3⟩ := old
        have hsame : ks0 = ks := by
          have : (ks0.map fun k => ({ target := .collected k, args := #[] } : Deferred)) = ks.map fun k => ({ target := .collected k, args := #[] } : Deferred) := by rw [← o1, ← q1]
          exact (List.map_inj_right (fun x y hxy => by simpa using hxy)).1 this
        subst hsame
        have := (Array.getElem?_eq_some_iff.1 (o3 _ hm).1).1
        omega
      · intro k hk
        rcases List.mem_cons.1 hk with rfl | hk
        · exact p3 _ (by rw [hks1]; simp)
        · exact q3 k hk
    have hss : SSim Θ ⟨st.tm, b2.set st.hp.length (some (.loop tms' key' .exhausted pend))⟩ { a with defers := [{ target := .collected Γ.w.heap.size, args := #[] }] ++ a.defers } := ⟨hs.tm.le eΘ.le, hT, marks⟩
    rw [← hwΘ]
    cases pend with
    | none => exact ⟨Θ, _, rfl, hss, eΘ, hq⟩
    | some p => cases p with
      | none => exact wpIn_ret ⟨Θ, _, rfl, hss, eΘ, hq⟩
      | some i => exact wpIn_exit ⟨Θ, _, rfl, hss, eΘ, hq⟩

/-- One round: the assignment; the record busy; the body; the record as it was left. -/
theorem ARound.ofK {P : Program} {id : Nat} {xs : List AV} {hp : HP} {tms : List AV} {key : Nat} (hb : hp[id]? = some (some (.loop tms key .ready none))) {ps : Array Tmp} {assign body : Code} (hk : lcP P key = ⟨ps, assign, body⟩) (hpl : (plainC assign && plainC body) = true) (hps : xs.length = ps.size)
    {A : List AV → HP → Prop} {K : AV → HP → Prop} (ha : AW P assign ⟨setPs tms ps.toList xs, hp⟩ fun e st' => e = .normal ∧ A st'.tm st'.hp)
    (hbody : ∀ tm hp1, A tm hp1 → ∃ tms1 key1 pd1, hp1[id]? = some (some (.loop tms1 key1 .ready pd1)) ∧ AW P body ⟨tm, hp1.set id (some (.loop tms1 key1 .busy pd1))⟩ fun e' st' => ∃ pe tms3 key3 ls3 pd3, pendOf e' = some pe ∧ st'.hp[id]? = some (some (.loop tms3 key3 ls3 pd3)) ∧ K (.bool pe.isNone) (st'.hp.set id (some (.loop tms3 key3 (if pe.isNone then .ready else .done) pe)))) :
    ARound P id xs hp K := by
  intro q Γ vs hh hl hv hid
  simp only [Bool.and_eq_true] at hpl
  obtain ⟨h1, h2, h3⟩ := hh.blk id _ hb
  simp only [BRel] at h1
  obtain ⟨fn, us, d, e1, e2⟩ := h1
  have hlc : Γ.lc key = ⟨ps, assign, body⟩ := by rw [hl, hk]
  rw [hlc] at e1
  have hsize : (⟨vs⟩ : Array Value).size = ps.size := by have := hv.length; simp only [List.size_toArray]; omega
  refine ⟨fn, _, assign, body, run_yield e1 hsize, ?_⟩
  have hQ : (Fw q).inRound (Γ.β id).1 = Fw (some (Γ.β id).1) := by cases q <;> rfl
  refine roundIn_of_wpIn (Fw_fn q fn) ?_
  rw [hQ]
  have hrel : VRels Γ (setPs tms ps.toList xs) ((ps.zip ⟨vs⟩).foldl (fun (t : Array Value) (x : Nat × Value) => t.setIfInBounds x.1 x.2) (⟨us⟩ : Array Value)).toList := by
    have := setPs_rel (ps := ps.toList) e2 hv
    have key : ∀ (l : List (Nat × Value)) (t : Array Value), (l.foldl (fun t (x : Nat × Value) => t.setIfInBounds x.1 x.2) t).toList = l.foldl (fun t (x : Nat × Value) => t.set x.1 x.2) t.toList := by
      intro l
      induction l with
      | nil => intro t; rfl
      | cons x l ih => intro t; simp only [List.foldl_cons]; rw [ih]; simp
    rw [← Array.foldl_toList, key]
    have hz : (ps.zip ⟨vs⟩).toList = ps.toList.zip vs := by simp
    rw [hz]
    exact this
  let Γ0 := Γ.from_ Γ.w.heap.size
  have hs0 : SSim Γ0 ⟨setPs tms ps.toList xs, hp⟩ { tmps := (ps.zip ⟨vs⟩).foldl (fun (t : Array Value) (x : Nat × Value) => t.setIfInBounds x.1 x.2) (⟨us⟩ : Array Value), defers := [] } := ⟨hrel.le (Le.from_ _ _), hh.from_ _, MarksOk.nil (Nat.le_refl _) _⟩
  refine wpIn_mono (ha (some (Γ.β id).1) Γ0 _ (.inr hpl.1) hs0 hl) ?_
  rintro e0 a1 w1 ⟨Δ, st1, rfl, k1, k2, rfl, k3⟩
  obtain ⟨tms1, key1, pd1, hb1, hbody⟩ := hbody _ _ k3
  have hβ1 : Δ.β id = Γ.β id := k2.le.β id hid
  have hh1 : HSim Δ st1.hp := k1.hp
  obtain ⟨fn1, us1, d1, f1, f2, turn1⟩ := loop_turn hh1 hb1
  obtain ⟨hT1, eT1⟩ := turn1 .busy pd1
  rw [hβ1] at f1
  refine ⟨_, run_beginRound f1 rfl, ?_⟩
  let Δ1 : Cx := Δ.setB (Δ.β id).1 (.loop { state := .busy, pending := pendC pd1, fn := fn1, tmps := ⟨us1⟩, params := (Δ.lc key1).params, assign := (Δ.lc key1).assign, body := (Δ.lc key1).body, defers := d1 })
  have hw1 : Δ1.w = Δ.w.putObj (Γ.β id).1 (.loop { state := .busy, pending := pendC pd1, fn := fn1, tmps := ⟨us1⟩, params := (Δ.lc key1).params, assign := (Δ.lc key1).assign, body := (Δ.lc key1).body, defers := d1 }) := by
    show setB Δ.w (Δ.β id).1 _ = _
    rw [hβ1]
    rfl
  have e01 : Ev Γ0 hp Δ1 (st1.hp.set id (some (.loop tms1 key1 .busy pd1))) := by
    exact k2.trans eT1
  have hs1 : SSim Δ1 ⟨st1.tm, st1.hp.set id (some (.loop tms1 key1 .busy pd1))⟩ a1 := ⟨k1.tm.le eT1.le, hT1, k1.df.ev eT1⟩
  rw [← hw1]
  refine wpIn_mono (hbody (some (Γ.β id).1) Δ1 a1 (.inr hpl.2) hs1 (e01.le.lc.trans hl)) ?_
  rintro e' a2 w2 ⟨Θ, st2, rfl, m1, m2, pe, tms3, key3, ls3, pd3, hpe, hb3, hKK⟩
  have hh3 : HSim Θ st2.hp := m1.hp
  have m2' := m2
  have hβ3 : Θ.β id = Γ.β id := (e01.trans m2').le.β id hid
  obtain ⟨fn3, us3, d3, g1, g2, turn3⟩ := loop_turn hh3 hb3
  rw [hβ3] at g1
  have fin : ∀ (jump : Option Code), jump = pendC pe → (jump.isNone = pe.isNone) → ∃ v w', (Instr.endRound (Γ.β id).1 jump).run P Θ.w = .ok v w' ∧ ∃ v' r hp' Δ', Ending.returned v = .returned v' ∧ Δ'.w = w' ∧ VRel Δ' r v' ∧ HSim Δ' hp' ∧ Ev Γ hp Δ' hp' ∧ K r hp' := by
    rintro jump rfl hj
    obtain ⟨hT3, eT3⟩ := turn3 (if pe.isNone then .ready else .done) pe
    refine ⟨_, _, run_endRound (pendC pe) g1, ?_⟩
    let Ψ : Cx := Θ.setB (Θ.β id).1 (.loop { state := if pe.isNone then .ready else .done, pending := pendC pe, fn := fn3, tmps := ⟨us3⟩, params := (Θ.lc key3).params, assign := (Θ.lc key3).assign, body := (Θ.lc key3).body, defers := d3 })
    have eAll : Ev Γ0 hp Ψ (st2.hp.set id (some (.loop tms3 key3 (if pe.isNone then .ready else .done) pe))) := (e01.trans m2').trans eT3
    refine ⟨_, .bool pe.isNone, _, Ψ.from_ Γ.s0, rfl, ?_, by simp only [VRel, hj], hT3.from_ _, eAll.from_, hKK⟩
    show setB Θ.w (Θ.β id).1 _ = _
    rw [hβ3, hj]
    rfl
  cases e' <;> simp only [pendOf, Option.some.injEq, reduceCtorEq] at hpe <;> subst hpe <;> simp only [roundPost]
  · exact fin none rfl rfl
  · exact fin _ rfl rfl
  · exact fin _ rfl rfl

/-- A loop over a function. -/
theorem vcE.rangeF {P : Program} {hint : Nat → Nat} {T : Tab} {n : Nat} {key nt : Nat} {o : Opd} {tm : Env} {hp : HP} {Q : Exit → Env → HP → Prop} {g : FuncId} {caps : List AV} (hv : evE tm o = .func g caps)
    (h : ∀ l, Is n tm l → ACalls P g (.yld hp.length :: caps) (hp ++ [some (.loop l key .ready none)]) fun r hp2 => ∃ tms' key' ls pend, hp2[hp.length]? = some (some (.loop tms' key' ls pend)) ∧ ls ≠ .busy ∧ Q (exitOf pend) tm (hp2.set hp.length (some (.loop tms' key' .exhausted pend)))) : vcE P hint T n (.rangeF key nt o) tm hp Q := by
  intro _ _ hok l Q' hl hq
  simp only [okS, Bool.and_eq_true] at hok
  show RangeW P key nt o ⟨l, hp⟩ Q'
  intro f ps a b ho hk
  have hev : o.ev l = .func g caps := by rw [hl.ev hok.2, hv]
  refine AW.rangeK ho hk (st := ⟨l, hp⟩) (fv := .func g caps) hev (h l hl) ?_
  rintro r hp2 ⟨tms', key', ls, pend, h1, h2, h3⟩
  refine ⟨tms', key', ls, pend, h1, h2, ?_⟩
  rcases pend with _ | _ | i
  · exact hq _ _ _ _ hl h3
  · exact hq _ _ _ _ hl h3
  · exact hq _ _ _ _ hl h3

theorem AW.ofE {P : Program} (hm : P.follows .mixedOrders = true) {T : Tab} (hT : TabOk P T) {hint : Nat → Nat} {c : Code} {ic : IC} (hc : compC P hint c = some ic) (hpl : plainC c = true) {n : Nat} (hok : okS n ic = true) {tm : Env} {hp : HP} {l : List AV} (hl : Is n tm l) {Q : Exit → Env → HP → Prop} (hng : ∀ l tm hp, ¬ Q (.goto l) tm hp) (h : Gi.vcE P hint T n ic tm hp Q) :
    AW P c ⟨l, hp⟩ fun e st' => ∃ tm', Is n tm' st'.tm ∧ Q e tm' st'.hp := by
  refine vc_sound hm hc (fun x hx => by rw [plain_keys hpl] at hx; cases hx) (by rintro l st ⟨tm', _, h1⟩; exact hng _ _ _ h1) ?_
  refine h hm hT hok l _ hl ?_
  intro e' tm' hp2 l' hl' hq
  exact ⟨tm', hl', hq⟩

/-- A round, by what its assignment and its body do. -/
theorem round_e {P : Program} (hm : P.follows .mixedOrders = true) {T : Tab} (hT : TabOk P T) {key : Nat} {li : LI} (hL : LOk P key li) {id : Nat} {tms xs : List AV} {hp : HP} (hb : hp[id]? = some (some (.loop tms key .ready none))) (hps : xs.length = li.ps.length) {tm : Env} (ht : Is li.nt tm (setPs tms li.ps xs)) {K : AV → HP → Prop}
    (h : ∀ hint, vcE P hint T li.nt li.a tm hp fun e tm1 hp1 => e = .normal ∧ ∃ tms1 key1 pd1, hp1[id]? = some (some (.loop tms1 key1 .ready pd1)) ∧ vcE P hint T li.nt li.b tm1 (hp1.set id (some (.loop tms1 key1 .busy pd1))) fun e' tm3 hp3 => ∃ pe tms3 key3 ls3 pd3, pendOf e' = some pe ∧ hp3[id]? = some (some (.loop tms3 key3 ls3 pd3)) ∧ K (.bool pe.isNone) (hp3.set id (some (.loop tms3 key3 (if pe.isNone then .ready else .done) pe)))) :
    ARound P id xs hp K := by
  obtain ⟨hint, k1, k2, k3, k4, k5⟩ := hL
  have hk2 := k2
  simp only [Bool.and_eq_true] at hk2 k5
  have ha := AW.ofE hm hT k3 hk2.1 k5.1 (l := setPs tms li.ps xs) ht (by rintro l tm hp ⟨h1, _⟩; cases h1) (h hint)
  refine ARound.ofK hb (ps := (lcP P key).params) (assign := (lcP P key).assign) (body := (lcP P key).body) rfl k2 (by rw [hps, ← k1, Array.length_toList]) (A := fun tm1 hp1 => ∃ tm', Is li.nt tm' tm1 ∧ ∃ tms1 key1 pd1, hp1[id]? = some (some (.loop tms1 key1 .ready pd1)) ∧ vcE P hint T li.nt li.b tm' (hp1.set id (some (.loop tms1 key1 .busy pd1))) fun e' tm3 hp3 => ∃ pe tms3 key3 ls3 pd3, pendOf e' = some pe ∧ hp3[id]? = some (some (.loop tms3 key3 ls3 pd3)) ∧ K (.bool pe.isNone) (hp3.set id (some (.loop tms3 key3 (if pe.isNone then .ready else .done) pe)))) ?_ ?_
  · rw [k1]
    exact ha.mono fun e st' ⟨tm', h1, h2, h3⟩ => ⟨h2, tm', h1, h3⟩
  · rintro tm1 hp1 ⟨tm', h1, tms1, key1, pd1, h2, h3⟩
    refine ⟨tms1, key1, pd1, h2, ?_⟩
    exact (AW.ofE hm hT k4 hk2.2 k5.2 h1 (by rintro l tm hp ⟨pe, _, _, _, _, h, _⟩; cases h) h3).mono fun e st' ⟨tm', _, h⟩ => h

theorem Is.setP {n : Nat} {tm : Env} {l : List AV} (h : Is n tm l) (p : Nat) (x : AV) : Is n (upd tm p x) (setPs l [p] [x]) := h.put (d := some p) (v := x)

/-- A round's call. -/
theorem vcE.callY {P : Program} {hint : Nat → Nat} {T : Tab} {n : Nat} {d : Option Nat} {xs : List Opd} {g : Option (Nat × Bool)} {tm : Env} {hp : HP} {Q : Exit → Env → HP → Prop} {id : Nat} {ys : List AV} {K : AV → HP → Prop} (hw : wantedE tm g = true) (he : evsE tm xs = .yld id :: ys) (hc : ARound P id ys hp K) (hk : ∀ r hp', K r hp' → Q .normal (putE tm d r) hp') : vcE P hint T n (.reg [⟨d, .call none, xs, g⟩]) tm hp Q := by
  intro hm hT hs l Q' hl hq
  simp only [okS, List.all_cons, List.all_nil, Bool.and_true, IOp.inR, Bool.and_eq_true] at hs
  obtain ⟨⟨h1, h2⟩, h3⟩ := hs
  show vop P _ _ _
  unfold vop
  rw [if_pos (by rw [hl.wanted h3]; exact hw)]
  simp only
  rw [hl.evs h1, he]
  exact hc.mono fun r hp' hr => hq _ _ _ _ hl.put (hk r hp' hr)

end Go.Gi
