/- A function's code, compiled; what it does to a state; calls of a function. -/
import Derived.Test.YtmehgdpbcafboaaGiW
import Derived.Deep.LoopGhost
set_option linter.unusedVariables false
set_option linter.unusedSimpArgs false
namespace Go.Gi
open Go

inductive IC where
  | skip
  | reg (is : List IOp)
  | regD (w : Cls) (is : List IOp) (t : Tr)
  | seq (a b : IC)
  | cond (c : Opd) (a b : IC)
  | block (id : Nat) (c : IC)
  | loop (c : IC)
  | exit (id : Nat)
  | ret

/-- How a region is to be read: 0: as it is; 1: what slices it writes out are never written. Where it draws its order: 0: its calls are the same in any memory; 1: they don't change it; 2: they may; 3: they only make new blocks. 4 to 7: likewise, but what slices it writes out may be written. 8 h + k: like k, but calls that write the temporaries of h's bits are free. -/
def hintB : Nat → Cls
  | 0 | 4 => .free
  | 2 | 6 => .wild
  | 3 | 7 => .alloc
  | _ => .pure
def hintW (h : Nat) : Cls := cond (Nat.blt h 8) (hintB h) (.mix (hintB (h % 8)) (h / 8))
def compC (P : Program) (hint : Nat → Nat) : Code → Option IC
  | .skip => some .skip
  | .label _ => some .skip
  | .region id ops false => (compOps P (hint id == 1) ops ops.toList).map .reg
  | .region id ops true => match compOps P (Nat.blt (hint id % 8) 4) ops ops.toList with
    | some is => let ms := masks ops.toList []
      let t := plan (hintW (hint id)) ms ops is ops.size 3 (Array.replicate ops.size false)
      if okT (hintW (hint id)) ms ops is ops.size t (Array.replicate ops.size false) then some (.regD (hintW (hint id)) is t) else none
    | none => none
  | .seq a b => match compC P hint a, compC P hint b with
    | some x, some y => some (.seq x y)
    | _, _ => none
  | .cond c a b => match opdP c, compC P hint a, compC P hint b with
    | some o, some x, some y => some (.cond o x y)
    | _, _, _ => none
  | .block id c => (compC P hint c).map (.block id)
  | .loop c => (compC P hint c).map .loop
  | .exit id => some (.exit id)
  | .ret => some .ret
  | .scope c => compC P hint c
  | _ => none

/-- From any state of the model that stands for this one, the code ends, in a state that stands for one of which Q holds. -/
def AW (P : Program) (c : Code) (st : St) (Q : Exit → St → Prop) : Prop := ∀ (Γ : Cx) (a : Act), SSim Γ st a → c.wp P (Post Γ st.hp Q) a Γ.w

def NoGoto (Q : Exit → St → Prop) : Exit → St → Prop
  | .goto _, _ => False
  | e, st => Q e st

theorem AW.mono {P : Program} {c : Code} {st : St} {Q Q' : Exit → St → Prop} (h : AW P c st Q) (hq : ∀ e st, Q e st → Q' e st) : AW P c st Q' :=
  fun Γ a hs => wp_mono (h Γ a hs) fun e a' w' ⟨Δ, st', h1, h2, h3, h4⟩ => ⟨Δ, st', h1, h2, h3, hq e st' h4⟩

/-- A loop: what it does is told apart. -/
def LoopW (P : Program) (hint : Nat → Nat) (c : IC) (st : St) (Q : Exit → St → Prop) : Prop := ∀ code, compC P hint code = some c → AW P (.loop code) st Q

def vc (P : Program) (hint : Nat → Nat) : IC → St → (Exit → St → Prop) → Prop
  | .skip, st, Q => Q .normal st
  | .reg is, st, Q => vops P is st (Q .normal)
  | .regD w is t, st, Q => vopsT P w is t st fun st' => ∃ st'', RenOk st.hp.length st' st'' ∧ Q .normal st''
  | .seq a b, st, Q => vc P hint a st fun e st' => match e with
    | .normal => vc P hint b st' Q
    | e => Q e st'
  | .cond c a b, st, Q => ∃ t, c.ev st.tm = .bool t ∧ (t = true → vc P hint a st Q) ∧ (t = false → vc P hint b st Q)
  | .block id c, st, Q => vc P hint c st fun e st' => match e with
    | .exit i => if i = id then Q .normal st' else Q (.exit i) st'
    | e => Q e st'
  | .loop c, st, Q => LoopW P hint c st Q
  | .exit id, st, Q => Q (.exit id) st
  | .ret, st, Q => Q .ret st

theorem Post.of {Γ Δ : Cx} {hp hp' : HP} {Q : Exit → St → Prop} (h : Ev Γ hp Δ hp') : ∀ {e : Exit} {a : Act} {w : World}, Post Δ hp' Q e a w → Post Γ hp Q e a w :=
  fun ⟨Θ, st, h1, h2, h3, h4⟩ => ⟨Θ, st, h1, h2, h.trans h3, h4⟩

theorem vc_sound {P : Program} (hm : P.follows .mixedOrders = true) {hint : Nat → Nat} : ∀ {c : Code} {ic : IC}, compC P hint c = some ic → ∀ {st : St} {Q : Exit → St → Prop}, (∀ l st, ¬ Q (.goto l) st) → vc P hint ic st Q → AW P c st Q
  | .skip, ic, hc, st, Q, _, h => by
    simp only [compC, Option.some.injEq] at hc; subst hc
    exact fun Γ a hs => wp_skip ⟨Γ, st, rfl, hs, Ev.refl _ _, h⟩
  | .label l, ic, hc, st, Q, _, h => by
    simp only [compC, Option.some.injEq] at hc; subst hc
    exact fun Γ a hs => wp_label ⟨Γ, st, rfl, hs, Ev.refl _ _, h⟩
  | .region id ops false, ic, hc, st, Q, _, h => by
    simp only [compC] at hc
    cases hco : compOps P (hint id == 1) ops ops.toList with
    | none => simp [hco] at hc
    | some is =>
      simp only [hco, Option.map_some, Option.some.injEq] at hc; subst hc
      obtain ⟨k1, k2⟩ := compOps_get hco
      intro Γ a hs
      refine wp_region ?_
      have hv := vops_sound (P := P) (fz := hint id == 1) (ops := ops) (is := is) 0 (fun j i hi => by
        have hlt : j < ops.toList.length := by rw [← k1]; exact (List.getElem?_eq_some_iff.1 hi).1
        have ho : ops.toList[j]? = some ops.toList[j] := List.getElem?_eq_getElem hlt
        refine ⟨ops.toList[j], by rw [Nat.zero_add]; rw [← Array.getElem?_toList]; exact ho, k2 j _ i ho hi⟩) hs h (Q' := Post Γ st.hp Q) fun Δ st' a' h1 h2 h3 => ⟨Δ, st', rfl, h1, h2, h3⟩
      rw [List.range_eq_range', show ops.size = is.length by rw [k1]; rfl]
      exact hv
  | .region id ops true, ic, hc, st, Q, _, h => by
    simp only [compC] at hc
    split at hc
    · rename_i is hco
      split at hc
      · rename_i hlex
        simp only [Option.some.injEq] at hc; subst hc
        obtain ⟨k1, k2⟩ := compOps_get hco
        have hlen : is.length = ops.size := k1
        intro Γ a hs
        refine wp_region_any hm ?_
        have hd : SSim (Γ.drewN 1) st a := ⟨hs.tm.le (Le.drewN Γ 1), hs.hp.drewN 1, hs.df⟩
        have hA := anyA_tree (P := P) (ops := ops) hlen (ms := masks ops.toList []) (masks_ok ops.toList [] (fun k => by simp) (fun k m hm => by simp at hm)) ops.size _ (Array.replicate ops.size false) st (closed_none ops _) hlex h
        exact anyA_sound (w := hintW (hint id)) (fz := Nat.blt (hint id % 8) 4) (Γ0 := Γ) (hp0 := st.hp) hlen (fun j o i ho hi => k2 j o i (by simpa using ho) hi) (Q' := Post Γ st.hp Q) (fun Δ st' a' h1 h2 h3 => by
          obtain ⟨st'', h4, h5⟩ := h3
          obtain ⟨Θ, k1, k2, k3⟩ := h4 Δ a' h1
          exact ⟨Θ, st'', k1, k2, k3 Γ st.hp (by rw [hs.hp.len]; exact Nat.le_refl _) h2, h5⟩) ops.size _ st (Γ.drewN 1) a hd (Ev.drewN Γ st.hp 1) hA
      · cases hc
    · cases hc
  | .seq x y, ic, hc, st, Q, hng, h => by
    simp only [compC] at hc
    split at hc
    · rename_i ix iy hx hy
      simp only [Option.some.injEq] at hc; subst hc
      simp only [vc] at h
      intro Γ a hs
      refine wp_seq (wp_mono (vc_sound hm hx (by intro l st' hq; exact hng l st' hq) h Γ a hs) ?_)
      rintro e a' w' ⟨Δ, st', rfl, h2, h3, h4⟩
      cases e with
      | normal => exact wp_mono (vc_sound hm hy hng h4 Δ a' h2) fun e a'' w'' hp => Post.of h3 hp
      | exit id => exact ⟨Δ, st', rfl, h2, h3, h4⟩
      | goto l => exact ⟨Δ, st', rfl, h2, h3, h4⟩
      | ret => exact ⟨Δ, st', rfl, h2, h3, h4⟩
      | panic ch => exact ⟨Δ, st', rfl, h2, h3, h4⟩
      | outgrown => exact ⟨Δ, st', rfl, h2, h3, h4⟩
    · cases hc
  | .cond c x y, ic, hc, st, Q, hng, h => by
    simp only [compC] at hc
    split at hc
    · rename_i o ix iy ho hx hy
      simp only [Option.some.injEq] at hc; subst hc
      simp only [vc] at h
      obtain ⟨t, ht, h1, h2⟩ := h
      intro Γ a hs
      have hr := opd_rel hs.tm ho
      rw [ht] at hr
      simp only [VRel] at hr
      exact wp_cond_split hr (fun e => vc_sound hm hx hng (h1 e) Γ a hs) (fun e => vc_sound hm hy hng (h2 e) Γ a hs)
    · cases hc
  | .block id c, ic, hc, st, Q, hng, h => by
    simp only [compC] at hc
    cases hx : compC P hint c with
    | none => simp [hx] at hc
    | some ix =>
      simp only [hx, Option.map_some, Option.some.injEq] at hc; subst hc
      simp only [vc] at h
      intro Γ a hs
      refine wp_block (wp_mono (vc_sound hm hx (by intro l st' hq; exact hng l st' hq) h Γ a hs) ?_)
      rintro e a' w' ⟨Δ, st', rfl, h2, h3, h4⟩
      cases e with
      | exit i =>
        simp only [Exit.inBlock]
        simp only at h4
        split
        · rename_i e; rw [if_pos e] at h4; exact ⟨Δ, st', rfl, h2, h3, h4⟩
        · rename_i e; rw [if_neg e] at h4; exact ⟨Δ, st', rfl, h2, h3, h4⟩
      | normal => exact ⟨Δ, st', rfl, h2, h3, h4⟩
      | goto l => exact ⟨Δ, st', rfl, h2, h3, h4⟩
      | ret => exact ⟨Δ, st', rfl, h2, h3, h4⟩
      | panic ch => exact ⟨Δ, st', rfl, h2, h3, h4⟩
      | outgrown => exact ⟨Δ, st', rfl, h2, h3, h4⟩
  | .loop c, ic, hc, st, Q, hng, h => by
    simp only [compC] at hc
    cases hx : compC P hint c with
    | none => simp [hx] at hc
    | some ix =>
      simp only [hx, Option.map_some, Option.some.injEq] at hc; subst hc
      simp only [vc] at h
      exact h c hx
  | .exit id, ic, hc, st, Q, _, h => by
    simp only [compC, Option.some.injEq] at hc; subst hc
    exact fun Γ a hs => wp_exit ⟨Γ, st, rfl, hs, Ev.refl _ _, h⟩
  | .ret, ic, hc, st, Q, _, h => by
    simp only [compC, Option.some.injEq] at hc; subst hc
    exact fun Γ a hs => wp_ret ⟨Γ, st, rfl, hs, Ev.refl _ _, h⟩
  | .scope c, ic, hc, st, Q, hng, h => by
    simp only [compC] at hc
    intro Γ a hs
    refine wp_scope_straight (wp_mono (vc_sound hm hc hng h Γ a hs) ?_)
    rintro e a' w' ⟨Δ, st', rfl, h2, h3, h4⟩
    cases e with
    | goto l => exact hng l st' h4
    | _ => exact ⟨Δ, st', rfl, h2, h3, h4⟩
  | .rangeFunc .., ic, hc, st, Q, _, h => by simp [compC] at hc
  | .goto l, ic, hc, st, Q, _, h => by simp [compC] at hc
  | .refuse w, ic, hc, st, Q, _, h => by simp [compC] at hc

/-- A loop, by a relation that holds at each round's head, and a number that goes down. -/
theorem LoopW.of {P : Program} (hm : P.follows .mixedOrders = true) {hint : Nat → Nat} {c : IC} {st : St} {Q : Exit → St → Prop} (hng : ∀ l st, ¬ Q (.goto l) st) (I : Nat → St → Prop) (n : Nat) (h0 : I n st)
    (round : ∀ n st, I n st → vc P hint c st fun e st' => match e with
      | .normal => ∃ m, m < n ∧ I m st'
      | e => Q e st') : LoopW P hint c st Q := by
  intro code hc Γ a hs
  refine wp_loop_ghost (fun n a' w' => ∃ Δ st', Δ.w = w' ∧ SSim Δ st' a' ∧ Ev Γ st.hp Δ st'.hp ∧ I n st') n ⟨Γ, st, rfl, hs, Ev.refl _ _, h0⟩ ?_
  rintro n a' w' ⟨Δ, st', rfl, h1, h2, h3⟩
  refine wp_mono (vc_sound hm hc (by intro l st'' hq; exact hng l st'' hq) (round n st' h3) Δ a' h1) ?_
  rintro e a'' w'' ⟨Θ, st'', rfl, q1, q2, q3⟩
  cases e with
  | normal =>
    obtain ⟨m, hm', hI⟩ := q3
    exact ⟨m, hm', Θ, st'', rfl, q1, h2.trans q2, hI⟩
  | exit id => exact ⟨Θ, st'', rfl, q1, h2.trans q2, q3⟩
  | goto l => exact ⟨Θ, st'', rfl, q1, h2.trans q2, q3⟩
  | ret => exact ⟨Θ, st'', rfl, q1, h2.trans q2, q3⟩
  | panic ch => exact ⟨Θ, st'', rfl, q1, h2.trans q2, q3⟩
  | outgrown => exact ⟨Θ, st'', rfl, q1, h2.trans q2, q3⟩

/-! ### What a function hands back -/
inductive RV where
  | t (i : Nat)
  | cell (i : Nat) (sh : Option Nat)

def resP (P : Program) : List ResultVar → Option (List RV)
  | [] => some []
  | .tmp i :: rs => (resP P rs).map (.t i :: ·)
  | .cell i ty :: rs => match shapeP P ty, resP P rs with
    | some sh, some l => some (.cell i sh :: l)
    | _, _ => none

def resA1 (st : St) : RV → Option AV
  | .t i => some (st.tm.getD i (.tup []))
  | .cell i sh => loadA st.hp sh (st.tm.getD i (.tup []))
def resL (st : St) : List RV → Option (List AV)
  | [] => some []
  | r :: rs => match resA1 st r, resL st rs with
    | some a, some as => some (a :: as)
    | _, _ => none
/-- One result, or a tuple of them. -/
def resA (rs : List RV) (st : St) : Option AV :=
  match resL st rs with
  | some [a] => some a
  | some as => some (.tup as)
  | none => none

theorem results_run {P : Program} {fn : Func} {rs : List RV} (hr : resP P fn.results.toList = some rs) {Γ : Cx} {st : St} {a : Act} (hs : SSim Γ st a) {r : AV} (h : resA rs st = some r) : ∃ v, (results fn a.tmps).run P Γ.w = .ok v Γ.w ∧ VRel Γ r v := by
  have key : ∀ (l : List ResultVar) (rs : List RV) (as : List AV), resP P l = some rs → resL st rs = some as → ∃ vs, (l.mapM (fun | .tmp t => pure (a.tmps.getD t undef) | .cell x t => do loadVar t (← asAddr (a.tmps.getD x undef)) : ResultVar → Sem Value)).run P Γ.w = .ok vs Γ.w ∧ VRels Γ as vs := by
    intro l
    induction l with
    | nil =>
      intro rs as h1 h2
      simp only [resP, Option.some.injEq] at h1
      subst h1
      simp only [resL, Option.some.injEq] at h2
      subst h2
      exact ⟨[], rfl, by simp [VRels]⟩
    | cons x l ih =>
      intro rs as h1 h2
      have hget : ∀ i, VRel Γ (st.tm.getD i (.tup [])) (a.tmps.getD i undef) := by
        intro i
        have := hs.tm.get i
        rw [Array.getD_eq_getD_getElem?]
        rw [List.getD_eq_getElem?_getD (l := a.tmps.toList)] at this
        simpa using this
      cases x with
      | tmp i =>
        simp only [resP] at h1
        cases hp : resP P l with
        | none => simp [hp] at h1
        | some rs' =>
          simp only [hp, Option.map_some, Option.some.injEq] at h1
          subst h1
          simp only [resL, resA1] at h2
          split at h2
          · rename_i b bs e1 e2
            simp only [Option.some.injEq] at e1 h2
            subst e1 h2
            obtain ⟨vs, q1, q2⟩ := ih rs' bs hp e2
            exact ⟨a.tmps.getD i undef :: vs, by simp only [List.mapM_cons, Sem.run_bind, Sem.run_pure, Result.andThen_ok, q1], by simp only [VRels]; exact ⟨_, _, rfl, hget i, q2⟩⟩
          · cases h2
      | cell i ty =>
        simp only [resP] at h1
        split at h1
        · rename_i sh rs' hsh hp
          simp only [Option.some.injEq] at h1
          subst h1
          simp only [resL, resA1] at h2
          split at h2
          · rename_i b bs e1 e2
            simp only [Option.some.injEq] at h2
            subst h2
            obtain ⟨vs, q1, q2⟩ := ih rs' bs hp e2
            simp only [loadA] at e1
            split at e1
            · rename_i cs off hrow
              obtain ⟨bb, o, hv, hc⟩ := rowA_rel hs.hp (hget i) hrow
              obtain ⟨u, p1, p2⟩ := pickA_run (P := P) hsh hc e1
              have hA : (asAddr (a.tmps.getD i undef)).run P Γ.w = .ok ⟨bb, o + off, none⟩ Γ.w := by rw [hv]; rfl
              exact ⟨u :: vs, by simp only [List.mapM_cons, Sem.run_bind, Sem.run_pure, Result.andThen_ok, hA, p1, q1], by simp only [VRels]; exact ⟨_, _, rfl, p2, q2⟩⟩
            · cases e1
          · cases h2
        · cases h1
  unfold resA at h
  have fin : ∀ as vs, (fn.results.toList.mapM (fun | .tmp t => pure (a.tmps.getD t undef) | .cell x t => do loadVar t (← asAddr (a.tmps.getD x undef)) : ResultVar → Sem Value)).run P Γ.w = .ok vs Γ.w → VRels Γ as vs →
      (results fn a.tmps).run P Γ.w = .ok (if h : vs.toArray.size = 1 then vs.toArray[0] else .tuple vs.toArray) Γ.w := by
    intro as vs h1 _
    unfold results
    simp only [Sem.run_bind, Array.mapM_eq_mapM_toList, Sem.run_map, Sem.run_pure]
    exact congrArg (fun r : Result (List Value) => (r.andThen fun a w' => Result.ok a.toArray w').andThen fun a w' => Result.ok (if h : a.size = 1 then a[0] else Value.tuple a) w') h1
  split at h
  · rename_i b hL
    simp only [Option.some.injEq] at h
    subst h
    obtain ⟨vs, q1, q2⟩ := key _ _ _ hr hL
    obtain ⟨v, rfl, hv⟩ := q2.one'
    exact ⟨v, by rw [fin _ _ q1 q2]; rfl, hv⟩
  · rename_i as hne hL
    simp only [Option.some.injEq] at h
    subst h
    obtain ⟨vs, q1, q2⟩ := key _ _ _ hr hL
    refine ⟨.tuple ⟨vs⟩, ?_, by simp only [VRel]; exact ⟨vs, rfl, q2⟩⟩
    rw [fin _ _ q1 q2, dif_neg]
    intro h1
    have hl := q2.length
    simp only [List.size_toArray] at h1
    rcases as with _ | ⟨b, _ | ⟨c, as⟩⟩
    · simp at hl; omega
    · exact hne b rfl
    · simp at hl; omega
  · cases h

/-- A function, compiled: its code, how many temporaries, its results. -/
structure FC where
  code : IC
  ntmps : Nat
  res : List RV

def compF (P : Program) (hint : Nat → Nat) (f : FuncId) : Option FC :=
  match P.funcs[f]? with
  | some fn => if fn.name == "runtime.NumGoroutine" then none else match fn.body with
    | some c => match compC P hint c, resP P fn.results.toList with
      | some ic, some rs => some ⟨ic, fn.ntmps, rs⟩
      | _, _ => none
    | none => none
  | none => none

/-- What a call begins with. -/
def enterA (g : FC) (xs : List AV) (hp : HP) : St := ⟨xs ++ List.replicate (g.ntmps - xs.length) (.tup []), hp⟩

def RetQ (g : FC) (K : AV → HP → Prop) : Exit → St → Prop
  | .normal, st | .ret, st => ∃ r, resA g.res st = some r ∧ K r st.hp
  | _, _ => False

theorem calls_vc {P : Program} (hm : P.follows .mixedOrders = true) {hint : Nat → Nat} {f : FuncId} {g : FC} (hf : compF P hint f = some g) {xs : List AV} {hp : HP} {K : AV → HP → Prop} (h : vc P hint g.code (enterA g xs hp) (RetQ g K)) : ACalls P f xs hp K := by
  unfold compF at hf
  split at hf
  · rename_i fn hfn
    split at hf
    · cases hf
    · rename_i hname
      split at hf
      · rename_i c hbody
        split at hf
        · rename_i ic rs hc hr
          simp only [Option.some.injEq] at hf
          subst hf
          refine ⟨⟨fn, hfn, by simpa using hname, by rw [hbody]; rfl⟩, fun Γ vs hh hx => ?_⟩
          refine calls_of_wp hfn hbody ?_
          have hl := hx.length
          have hs : SSim Γ (enterA ⟨ic, fn.ntmps, rs⟩ xs hp) { tmps := (⟨vs⟩ : Array Value) ++ Array.replicate (fn.ntmps - (⟨vs⟩ : Array Value).size) undef, defers := [] } := by
            refine ⟨?_, hh, rfl⟩
            simp only [enterA]
            have := hx.append (VRels.reps (undef_rel Γ) (fn.ntmps - xs.length))
            rw [hl] at this ⊢
            simpa using this
          refine wp_mono (vc_sound hm hc (Q := RetQ ⟨ic, fn.ntmps, rs⟩ K) (by intro l st hq; exact hq) h Γ _ hs) ?_
          rintro e a' w' ⟨Δ, st', rfl, h2, h3, h4⟩
          cases e with
          | normal =>
            obtain ⟨r, hr', hk⟩ := h4
            obtain ⟨v, q1, q2⟩ := results_run (fn := fn) hr h2 hr'
            exact ⟨h2.df, v, q1, v, r, st'.hp, Δ, rfl, rfl, q2, h2.hp, h3, hk⟩
          | ret =>
            obtain ⟨r, hr', hk⟩ := h4
            obtain ⟨v, q1, q2⟩ := results_run (fn := fn) hr h2 hr'
            exact ⟨h2.df, v, q1, v, r, st'.hp, Δ, rfl, rfl, q2, h2.hp, h3, hk⟩
          | exit id => exact h4.elim
          | goto l => exact h4.elim
          | panic ch => exact h4.elim
          | outgrown => exact h4.elim
        · cases hf
      · cases hf
  · cases hf

end Go.Gi
