/- Loops over functions: what the statement does, and what a round does. -/
import Derived.Test.YtakdhioafodhcaaGreatDoorGiM
set_option linter.unusedVariables false
set_option linter.unusedSimpArgs false
namespace Go.Gi
open Go

/-- A new block of the world that nobody knows. -/
theorem HSim.newOther {Γ : Cx} {hp : HP} (h : HSim Γ hp) (o : Obj) : HSim (Γ.alloc o) hp ∧ Ev Γ hp (Γ.alloc o) hp := by
  have le : Le Γ (Γ.alloc o) := Le.alloc h.fz o
  refine ⟨⟨h.len, fun i y hy => ?_, h.inj, fun b hb => ?_, h.gl.le le⟩, ⟨le, rfl, rfl, rfl, by simp [Cx.alloc, alloc_size], fun b hb _ => alloc_old _ _ hb, fun b hb => .inr hb, fun b hb => .inl hb, rfl⟩⟩
  · obtain ⟨h1, h2, h3⟩ := h.blk i y hy
    exact ⟨BRel.le le (alloc_old _ _ h3) h1, h2, by simp only [Cx.alloc, alloc_size]; exact Nat.lt_succ_of_lt h3⟩
  · simp only [Cx.alloc, alloc_size]
    exact Nat.lt_succ_of_lt (h.fz b hb)

/-- A loop's record that is turned. -/
theorem loop_turn {Γ : Cx} {hp : HP} (h : HSim Γ hp) {id : Nat} {tms : List AV} {key : Nat} {st : LoopState} {pend : Option (Option Nat)} (hi : hp[id]? = some (some (.loop tms key st pend))) :
    ∃ (fn : FuncId) (vs : List Value) (d : Nat), Γ.w.heap[(Γ.β id).1]? = some (.loop { state := st, pending := pendC pend, fn := fn, tmps := ⟨vs⟩, params := (Γ.lc key).params, assign := (Γ.lc key).assign, body := (Γ.lc key).body, defers := d }) ∧ VRels Γ tms vs ∧
      ∀ st' pend', let o : Obj := .loop { state := st', pending := pendC pend', fn := fn, tmps := ⟨vs⟩, params := (Γ.lc key).params, assign := (Γ.lc key).assign, body := (Γ.lc key).body, defers := d }
        HSim (Γ.setB (Γ.β id).1 o) (hp.set id (some (.loop tms key st' pend'))) ∧ Ev Γ hp (Γ.setB (Γ.β id).1 o) (hp.set id (some (.loop tms key st' pend'))) := by
  obtain ⟨h1, h2, h3⟩ := h.blk id _ hi
  simp only [BRel] at h1
  obtain ⟨fn, vs, d, e1, e2⟩ := h1
  refine ⟨fn, vs, d, e1, e2, fun st' pend' => ?_⟩
  refine h.write hi _ _ (by intro s hs; simp [World.shape?, e1] at hs) ?_
  simp only [BRel]
  have le : Le Γ (Γ.setB (Γ.β id).1 (.loop { state := st', pending := pendC pend', fn := fn, tmps := ⟨vs⟩, params := (Γ.lc key).params, assign := (Γ.lc key).assign, body := (Γ.lc key).body, defers := d })) := Le.setB h2 (by intro s hs; simp [World.shape?, e1] at hs)
  exact ⟨fn, vs, d, setB_eq _ _ h3, e2.le le⟩

/-- The one call of a loop over a function. -/
def RCall (P : Program) (fv : AV) (id : Nat) (hp : HP) (K : AV → HP → Prop) : Prop :=
  match fv with
  | .func g caps => ACalls P g (.yld id :: caps) hp K
  | .bound g first => ACalls P g (first ++ [.yld id]) hp K
  | _ => False

/-- The statement 'for .. := range f': its record; the one call; the jump that a round has left. -/
theorem AW.range {P : Program} {f : Operand} {o : Opd} (ho : opdP f = some o) {key : Nat} {ps : Array Tmp} {assign body : Code} (hk : lcP P key = ⟨ps, assign, body⟩) {st : St} {fv : AV} (hv : o.ev st.tm = fv) {r : AV} {hp2 : HP} {tms' : List AV} {key' : Nat} {ls : LoopState} {pend : Option (Option Nat)}
    (hcall : RCall P fv st.hp.length (st.hp ++ [some (.loop st.tm key .ready none)]) fun a b => a = r ∧ b = hp2)
    (hb : hp2[st.hp.length]? = some (some (.loop tms' key' ls pend))) (hne : ls ≠ .busy) {Q : Exit → St → Prop} (hq : match pend with
      | none => Q .normal ⟨st.tm, hp2.set st.hp.length (some (.loop tms' key' .exhausted pend))⟩
      | some none => Q .ret ⟨st.tm, hp2.set st.hp.length (some (.loop tms' key' .exhausted pend))⟩
      | some (some i) => Q (.exit i) ⟨st.tm, hp2.set st.hp.length (some (.loop tms' key' .exhausted pend))⟩) : AW P (.rangeFunc f ps assign body) st Q := by
  intro q Γ a hp hs hl
  have hq0 : q = none := hp.resolve_right (by simp [plainC])
  subst hq0
  show (Code.rangeFunc f ps assign body).wpIn Fence.wide 0 P _ a Γ.w
  refine wpIn_rangeFunc ?_
  intro fn _
  -- the two new blocks
  obtain ⟨hA, eA⟩ := hs.hp.newOther (.deferred (some []))
  let Γ1 : Cx := Γ.alloc (.deferred (some []))
  let obj : Obj := .loop { state := .ready, pending := none, fn := fn, tmps := a.tmps, params := ps, assign := assign, body := body, defers := Γ.w.heap.size }
  have hlc : Γ.lc key = ⟨ps, assign, body⟩ := by rw [hl, hk]
  let Γ2 : Cx := (Γ1.alloc obj).know (Γ1.w.heap.size, 0)
  have hsz : Γ1.w.heap.size = Γ.w.heap.size + 1 := by simp [Γ1, Cx.alloc, alloc_size]
  have le12 : Le Γ1 Γ2 := (Le.alloc hA.fz obj).trans (Le.know _ _)
  have hB : HSim Γ2 (st.hp ++ [some (.loop st.tm key .ready none)]) ∧ Ev Γ1 st.hp Γ2 (st.hp ++ [some (.loop st.tm key .ready none)]) := by
    refine hA.new obj (.loop st.tm key .ready none) ?_
    simp only [BRel]
    refine ⟨fn, a.tmps.toList, Γ.w.heap.size, ?_, (hs.tm.le eA.le).le le12⟩
    have : (Γ2.w).heap[Γ1.w.heap.size]? = some obj := alloc_new _ _
    have hl2 : Γ2.lc key = ⟨ps, assign, body⟩ := hlc
    show Γ2.w.heap[Γ1.w.heap.size]? = _
    rw [this, hl2]
    simp only [obj, pendC]
  obtain ⟨hB1, eB⟩ := hB
  have eAB : Ev Γ st.hp Γ2 (st.hp ++ [some (.loop st.tm key .ready none)]) := eA.trans eB
  have hn : Γ1.n = st.hp.length := hA.len.symm
  have hyld : VRel Γ2 (.yld st.hp.length) (.func (.yield (Γ.w.heap.size + 1)) #[] #[]) := by
    simp only [VRel]
    refine ⟨by show st.hp.length < Γ1.n + 1; omega, ?_⟩
    have : (Γ2.β st.hp.length).1 = Γ1.w.heap.size := by simp [Γ2, Cx.know, Cx.alloc, hn]
    rw [this, hsz]
  have hfv : VRel Γ fv (a.eval f) := by rw [← hv]; exact opd_rel hs.hp.gl hs.tm ho
  -- what the call's function is
  have hfun : ∃ (g : FuncId) (xs : List AV) (first caps : List Value), a.eval f = .func (.func g) ⟨first⟩ ⟨caps⟩ ∧ VRels Γ2 xs (first ++ .func (.yield (Γ.w.heap.size + 1)) #[] #[] :: caps) ∧ ACalls P g xs (st.hp ++ [some (.loop st.tm key .ready none)]) fun a b => a = r ∧ b = hp2 := by
    cases fv <;> simp only [RCall] at hcall
    case func g caps =>
      simp only [VRel] at hfv
      obtain ⟨vs, h1, h2⟩ := hfv
      refine ⟨g, _, [], vs, h1, ?_, hcall⟩
      simp only [List.nil_append, VRels]
      exact ⟨_, _, rfl, hyld, h2.le eAB.le⟩
    case bound g first =>
      simp only [VRel] at hfv
      obtain ⟨vs, h1, h2⟩ := hfv
      refine ⟨g, _, vs, [], h1, ?_, hcall⟩
      exact (h2.le eAB.le).append (by simp only [VRels]; exact ⟨_, _, rfl, hyld, rfl⟩)
  obtain ⟨g, xs, first, caps, hf, hxs, hac⟩ := hfun
  obtain ⟨⟨gfn, hgfn, hname, hbody⟩, hc⟩ := hac
  have hw2 : Γ2.w = (Γ.w.alloc (.deferred (some []))).alloc obj := rfl
  refine ⟨Γ.w.heap.size + 1, [{ target := .collected Γ.w.heap.size, args := #[] }], Γ2.w, { target := .fn (.func g) ⟨caps⟩, args := ⟨first⟩ ++ #[.func (.yield (Γ.w.heap.size + 1)) #[] #[]] }, Γ2.w, g, ⟨first ++ .func (.yield (Γ.w.heap.size + 1)) #[] #[] :: caps⟩, Γ2.w, ?_, ?_, fun _ _ => trivial, ?_, (by intro h; cases h), ?_⟩
  · exact run_enterLoop_outer _ _ _ _ _
  · simp only [resolve, hf]
    simp [Deferred.ofValue, Act.eval]
  · have hn' : ¬ gfn.name = "runtime.NumGoroutine" := by simpa using hname
    have hb' : ¬ gfn.body = none := by intro hb; rw [hb] at hbody; cases hbody
    simp [invoke, callFunc, hgfn, hn', hb']
  · refine Fw_calls none (Calls.mono (hc Γ2 _ hB1 (eAB.le.lc.trans hl) hxs) ?_)
    rintro e w' ⟨v, a2, b2, Δ, rfl, rfl, h5, h6, h7, rfl, rfl⟩
    obtain ⟨fn', vs', d', e1, e2, turn⟩ := loop_turn h6 hb
    obtain ⟨hT, eT⟩ := turn .exhausted pend
    have hβ : (Δ.β st.hp.length).1 = Γ.w.heap.size + 1 := by
      rw [h7.le.β _ (by show st.hp.length < Γ1.n + 1; omega)]
      have : (Γ2.β st.hp.length).1 = Γ1.w.heap.size := by simp [Γ2, Cx.know, Cx.alloc, hn]
      rw [this, hsz]
    have hend := run_endLoop (P := P) e1 hne
    rw [hβ] at hend
    refine ⟨pendC pend, _, hend, ?_⟩
    -- the state behind
    let o' : Obj := .loop { state := .exhausted, pending := pendC pend, fn := fn', tmps := ⟨vs'⟩, params := (Δ.lc key').params, assign := (Δ.lc key').assign, body := (Δ.lc key').body, defers := d' }
    let Θ : Cx := Δ.setB (Δ.β st.hp.length).1 o'
    have eΘ : Ev Γ st.hp Θ (b2.set st.hp.length (some (.loop tms' key' .exhausted pend))) := (eAB.trans h7).trans eT
    have hwΘ : Θ.w = Δ.w.putObj (Γ.w.heap.size + 1) o' := by
      show setB Δ.w (Δ.β st.hp.length).1 o' = _
      rw [hβ]
      rfl
    have marks : MarksOk Θ (b2.set st.hp.length (some (.loop tms' key' .exhausted pend))) ({ target := .collected Γ.w.heap.size, args := #[] } :: a.defers) := by
      obtain ⟨q0, ks, q1, q2, q3⟩ := hs.df.ev eΘ
      have old := hs.df
      have hk0 : Γ1.w.heap[Γ.w.heap.size]? = some (.deferred (some [])) := alloc_new _ _
      have hk1 : MarksOk Γ1 st.hp [{ target := .collected Γ.w.heap.size, args := #[] }] := by
        refine ⟨Nat.le_trans hs.df.1 eA.size, [Γ.w.heap.size], rfl, by simp, fun k hk => ?_⟩
        simp only [List.mem_singleton] at hk
        subst hk
        refine ⟨hk0, ?_, ?_, hs.df.1⟩
        · rintro ⟨i, x, hx, e⟩
          have := (hs.hp.blk i x hx).2.2
          have e' : (Γ.β i).1 = Γ.w.heap.size := e
          omega
        · intro hf
          have := hs.hp.fz _ hf
          omega
      obtain ⟨_, ks1, p1, p2, p3⟩ := hk1.ev ((eB.trans h7).trans eT)
      have hks1 : ks1 = [Γ.w.heap.size] := by
        rcases ks1 with _ | ⟨x, _ | ⟨y, l⟩⟩ <;> simp at p1
        rw [← p1]
      refine ⟨q0, Γ.w.heap.size :: ks, by rw [q1]; rfl, ?_, ?_⟩
      · rw [List.nodup_cons]
        refine ⟨fun hm => ?_, q2⟩
        obtain ⟨_, ks0, o1, o2, o3⟩ := old
        have hsame : ks0 = ks := by
          have : (ks0.map fun k => ({ target := .collected k, args := #[] } : Deferred)) = ks.map fun k => ({ target := .collected k, args := #[] } : Deferred) := by rw [← o1, ← q1]
          exact (List.map_inj_right (fun x y hxy => by simpa using hxy)).1 this
        subst hsame
        have := (Array.getElem?_eq_some_iff.1 (o3 _ hm).1).1
        omega
      · intro k hk
        rcases List.mem_cons.1 hk with rfl | hk
        · exact p3 _ (by rw [hks1]; simp)
        · exact q3 k hk
    have hss : SSim Θ ⟨st.tm, b2.set st.hp.length (some (.loop tms' key' .exhausted pend))⟩ { a with defers := [{ target := .collected Γ.w.heap.size, args := #[] }] ++ a.defers } := ⟨hs.tm.le eΘ.le, hT, marks⟩
    rw [← hwΘ]
    cases pend with
    | none => exact ⟨Θ, _, rfl, hss, eΘ, hq⟩
    | some p => cases p with
      | none => exact wpIn_ret ⟨Θ, _, rfl, hss, eΘ, hq⟩
      | some i => exact wpIn_exit ⟨Θ, _, rfl, hss, eΘ, hq⟩

/-- What stays pending behind a round that was left so. -/
def pendOf : Exit → Option (Option (Option Nat))
  | .normal => some none
  | .ret => some (some none)
  | .exit i => some (some (some i))
  | _ => none

/-- The parameters of a round. -/
def setPs (tms : List AV) : List Nat → List AV → List AV
  | p :: ps, x :: xs => setPs (tms.set p x) ps xs
  | _, _ => tms
theorem setPs_rel {Γ : Cx} : ∀ {ps : List Nat} {xs tms : List AV} {vs us : List Value}, VRels Γ tms us → VRels Γ xs vs → VRels Γ (setPs tms ps xs) ((ps.zip vs).foldl (fun t (x : Nat × Value) => t.set x.1 x.2) us)
  | [], xs, tms, vs, us, h, k => by simpa [setPs] using h
  | p :: ps, [], tms, vs, us, h, k => by
    simp only [VRels] at k
    subst k
    simpa [setPs] using h
  | p :: ps, x :: xs, tms, vs, us, h, k => by
    simp only [VRels] at k
    obtain ⟨v, vs', rfl, h1, h2⟩ := k
    simp only [setPs, List.zip_cons_cons, List.foldl_cons]
    exact setPs_rel (VRels.set h1 h p) h2

/-- One round: the assignment; the record busy; the body; the record as it was left. -/
theorem ARound.of {P : Program} {id : Nat} {xs : List AV} {hp : HP} {tms : List AV} {key : Nat} (hb : hp[id]? = some (some (.loop tms key .ready none))) {ps : Array Tmp} {assign body : Code} (hk : lcP P key = ⟨ps, assign, body⟩) (hpl : (plainC assign && plainC body) = true) (hps : xs.length = ps.size)
    {t1 : List AV → Prop} {hp1 hp3 : HP} {tms1 : List AV} {key1 : Nat} {pd1 : Option (Option Nat)} (ha : AW P assign ⟨setPs tms ps.toList xs, hp⟩ fun e st' => e = .normal ∧ t1 st'.tm ∧ st'.hp = hp1) (hb1 : hp1[id]? = some (some (.loop tms1 key1 .ready pd1)))
    {e : Exit} {pe : Option (Option Nat)} (hpe : pendOf e = some pe) (hbody : ∀ tm, t1 tm → AW P body ⟨tm, hp1.set id (some (.loop tms1 key1 .busy pd1))⟩ fun e' st' => e' = e ∧ st'.hp = hp3)
    {tms3 : List AV} {key3 : Nat} {ls3 : LoopState} {pd3 : Option (Option Nat)} (hb3 : hp3[id]? = some (some (.loop tms3 key3 ls3 pd3))) :
    ARound P id xs hp fun r hp' => r = .bool pe.isNone ∧ hp' = hp3.set id (some (.loop tms3 key3 (if pe.isNone then .ready else .done) pe)) := by
  intro q Γ vs hh hl hv hid
  simp only [Bool.and_eq_true] at hpl
  obtain ⟨h1, h2, h3⟩ := hh.blk id _ hb
  simp only [BRel] at h1
  obtain ⟨fn, us, d, e1, e2⟩ := h1
  have hlc : Γ.lc key = ⟨ps, assign, body⟩ := by rw [hl, hk]
  rw [hlc] at e1
  have hsize : (⟨vs⟩ : Array Value).size = ps.size := by have := hv.length; simp only [List.size_toArray]; omega
  refine ⟨fn, _, assign, body, run_yield e1 hsize, ?_⟩
  have hQ : (Fw q).inRound (Γ.β id).1 = Fw (some (Γ.β id).1) := by cases q <;> rfl
  refine roundIn_of_wpIn (Fw_fn q fn) ?_
  rw [hQ]
  have hrel : VRels Γ (setPs tms ps.toList xs) ((ps.zip ⟨vs⟩).foldl (fun (t : Array Value) (x : Nat × Value) => t.setIfInBounds x.1 x.2) (⟨us⟩ : Array Value)).toList := by
    have := setPs_rel (ps := ps.toList) e2 hv
    have key : ∀ (l : List (Nat × Value)) (t : Array Value), (l.foldl (fun t (x : Nat × Value) => t.setIfInBounds x.1 x.2) t).toList = l.foldl (fun t (x : Nat × Value) => t.set x.1 x.2) t.toList := by
      intro l
      induction l with
      | nil => intro t; rfl
      | cons x l ih => intro t; simp only [List.foldl_cons]; rw [ih]; simp
    rw [← Array.foldl_toList, key]
    have hz : (ps.zip ⟨vs⟩).toList = ps.toList.zip vs := by simp
    rw [hz]
    exact this
  let Γ0 := Γ.from_ Γ.w.heap.size
  have hs0 : SSim Γ0 ⟨setPs tms ps.toList xs, hp⟩ { tmps := (ps.zip ⟨vs⟩).foldl (fun (t : Array Value) (x : Nat × Value) => t.setIfInBounds x.1 x.2) (⟨us⟩ : Array Value), defers := [] } := ⟨hrel.le (Le.from_ _ _), hh.from_ _, MarksOk.nil (Nat.le_refl _) _⟩
  refine wpIn_mono (ha (some (Γ.β id).1) Γ0 _ (.inr hpl.1) hs0 hl) ?_
  rintro e0 a1 w1 ⟨Δ, st1, rfl, k1, k2, rfl, k3, k4⟩
  have hβ1 : Δ.β id = Γ.β id := k2.le.β id hid
  have hh1 : HSim Δ hp1 := by rw [← k4]; exact k1.hp
  obtain ⟨fn1, us1, d1, f1, f2, turn1⟩ := loop_turn hh1 hb1
  obtain ⟨hT1, eT1⟩ := turn1 .busy pd1
  rw [hβ1] at f1
  refine ⟨_, run_beginRound f1 rfl, ?_⟩
  let Δ1 : Cx := Δ.setB (Δ.β id).1 (.loop { state := .busy, pending := pendC pd1, fn := fn1, tmps := ⟨us1⟩, params := (Δ.lc key1).params, assign := (Δ.lc key1).assign, body := (Δ.lc key1).body, defers := d1 })
  have hw1 : Δ1.w = Δ.w.putObj (Γ.β id).1 (.loop { state := .busy, pending := pendC pd1, fn := fn1, tmps := ⟨us1⟩, params := (Δ.lc key1).params, assign := (Δ.lc key1).assign, body := (Δ.lc key1).body, defers := d1 }) := by
    show setB Δ.w (Δ.β id).1 _ = _
    rw [hβ1]
    rfl
  have e01 : Ev Γ0 hp Δ1 (hp1.set id (some (.loop tms1 key1 .busy pd1))) := by
    have k2' : Ev Γ0 hp Δ hp1 := by rw [← k4]; exact k2
    exact k2'.trans eT1
  have hs1 : SSim Δ1 ⟨st1.tm, hp1.set id (some (.loop tms1 key1 .busy pd1))⟩ a1 := ⟨k1.tm.le eT1.le, hT1, by
    have := k1.df
    rw [k4] at this
    exact this.ev eT1⟩
  rw [← hw1]
  refine wpIn_mono (hbody st1.tm k3 (some (Γ.β id).1) Δ1 a1 (.inr hpl.2) hs1 (e01.le.lc.trans hl)) ?_
  rintro e' a2 w2 ⟨Θ, st2, rfl, m1, m2, rfl, m4⟩
  have hh3 : HSim Θ hp3 := by rw [← m4]; exact m1.hp
  have m2' : Ev Δ1 (hp1.set id (some (.loop tms1 key1 .busy pd1))) Θ hp3 := by rw [← m4]; exact m2
  have hβ3 : Θ.β id = Γ.β id := (e01.trans m2').le.β id hid
  obtain ⟨fn3, us3, d3, g1, g2, turn3⟩ := loop_turn hh3 hb3
  rw [hβ3] at g1
  have fin : ∀ (jump : Option Code), jump = pendC pe → (jump.isNone = pe.isNone) → ∃ v w', (Instr.endRound (Γ.β id).1 jump).run P Θ.w = .ok v w' ∧ ∃ v' r hp' Δ', Ending.returned v = .returned v' ∧ Δ'.w = w' ∧ VRel Δ' r v' ∧ HSim Δ' hp' ∧ Ev Γ hp Δ' hp' ∧ r = .bool pe.isNone ∧ hp' = hp3.set id (some (.loop tms3 key3 (if pe.isNone then .ready else .done) pe)) := by
    rintro jump rfl hj
    obtain ⟨hT3, eT3⟩ := turn3 (if pe.isNone then .ready else .done) pe
    refine ⟨_, _, run_endRound (pendC pe) g1, ?_⟩
    let Ψ : Cx := Θ.setB (Θ.β id).1 (.loop { state := if pe.isNone then .ready else .done, pending := pendC pe, fn := fn3, tmps := ⟨us3⟩, params := (Θ.lc key3).params, assign := (Θ.lc key3).assign, body := (Θ.lc key3).body, defers := d3 })
    have eAll : Ev Γ0 hp Ψ (hp3.set id (some (.loop tms3 key3 (if pe.isNone then .ready else .done) pe))) := (e01.trans m2').trans eT3
    refine ⟨_, .bool pe.isNone, _, Ψ.from_ Γ.s0, rfl, ?_, by simp only [VRel, hj], hT3.from_ _, eAll.from_, rfl, rfl⟩
    show setB Θ.w (Θ.β id).1 _ = _
    rw [hβ3, hj]
    rfl
  cases e' <;> simp only [pendOf, Option.some.injEq, reduceCtorEq] at hpe <;> subst hpe <;> simp only [roundPost]
  · exact fin none rfl rfl
  · exact fin _ rfl rfl
  · exact fin _ rfl rfl

end Go.Gi
