/- A function's code, compiled; what it does to a state; calls of a function. -/
import Derived.Test.YtakdhioafodhcaaGreatDoorGiW
import Derived.Deep.LoopGhost
import Derived.Sort.LoopGhostIn
import Derived.RangeFuncLeaves
import Derived.RangeFuncRecord
set_option linter.unusedVariables false
set_option linter.unusedSimpArgs false
namespace Go.Gi
open Go

inductive IC where
  | skip
  | reg (is : List IOp)
  | regD (w : Cls) (is : List IOp) (t : Tr)
  | seq (a b : IC)
  | cond (c : Opd) (a b : IC)
  | block (id : Nat) (c : IC)
  | loop (c : IC)
  | exit (id : Nat)
  | ret
  | rangeF (key nt : Nat) (f : Opd)

/-- How a region is to be read: 0: as it is; 1: what slices it writes out are never written. Where it draws its order: 0: its calls are the same in any memory; 1: they don't change it; 2: they may; 3: they only make new blocks. 4 to 7: likewise, but what slices it writes out may be written. 8 h + k: like k, but calls that write the temporaries of h's bits are free. -/
def hintB : Nat → Cls
  | 0 | 4 => .free
  | 2 | 6 => .wild
  | 3 | 7 => .alloc
  | _ => .pure
def hintW (h : Nat) : Cls := cond (Nat.blt h 8) (hintB h) (.mix (hintB (h % 8)) (h / 8))
/-- Code without a loop over a function. -/
def plainC : Code → Bool
  | .seq a b | .cond _ a b => plainC a && plainC b
  | .block _ c | .loop c | .scope c => plainC c
  | .rangeFunc .. => false
  | _ => true
def regionsIn : Code → List Nat
  | .region id _ _ => [id]
  | .seq a b | .cond _ a b => regionsIn a ++ regionsIn b
  | .block _ c | .loop c | .scope c => regionsIn c
  | _ => []
def firstReg (a b : Code) : Nat := match regionsIn a ++ regionsIn b with
  | i :: _ => i
  | [] => 0
def compC (P : Program) (hint : Nat → Nat) : Code → Option IC
  | .skip => some .skip
  | .label _ => some .skip
  | .region id ops false => (compOps P (hint id == 1) ops ops.toList).map .reg
  | .region id ops true => match compOps P (Nat.blt (hint id % 8) 4) ops ops.toList with
    | some is => let ms := masks ops.toList []
      let t := plan (hintW (hint id)) ms ops is ops.size 3 (Array.replicate ops.size false)
      if okT (hintW (hint id)) ms ops is ops.size t (Array.replicate ops.size false) then some (.regD (hintW (hint id)) is t) else none
    | none => none
  | .seq a b => match compC P hint a, compC P hint b with
    | some x, some y => some (.seq x y)
    | _, _ => none
  | .cond c a b => match opdP c, compC P hint a, compC P hint b with
    | some o, some x, some y => some (.cond o x y)
    | _, _, _ => none
  | .block id c => (compC P hint c).map (.block id)
  | .loop c => (compC P hint c).map .loop
  | .exit id => some (.exit id)
  | .ret => some .ret
  | .scope c => compC P hint c
  | .rangeFunc f ps a b => if (plainC a && plainC b) = true then (opdP f).map fun o => .rangeF (hint (1000000 + firstReg a b)) (hint (2000000 + firstReg a b)) o else none
  | _ => none

/-- The loops over functions, with their numbers. -/
def keysOf (hint : Nat → Nat) : Code → List (Nat × LC)
  | .seq a b | .cond _ a b => keysOf hint a ++ keysOf hint b
  | .block _ c | .loop c | .scope c => keysOf hint c
  | .rangeFunc _ ps a b => [(hint (1000000 + firstReg a b), ⟨ps, a, b⟩)]
  | _ => []
def KeysOk (P : Program) (hint : Nat → Nat) (c : Code) : Prop := ∀ x ∈ keysOf hint c, lcP P x.1 = x.2

/-- From any state of the model that stands for this one, the code ends, in a state that stands for one of which Q holds. -/
def AW (P : Program) (c : Code) (st : St) (Q : Exit → St → Prop) : Prop := ∀ (q : Option Nat) (Γ : Cx) (a : Act), (q = none ∨ plainC c = true) → SSim Γ st a → Γ.lc = lcP P → c.wpIn (Fw q) 0 P (Post Γ st.hp Q) a Γ.w

theorem AW.mono {P : Program} {c : Code} {st : St} {Q Q' : Exit → St → Prop} (h : AW P c st Q) (hq : ∀ e st, Q e st → Q' e st) : AW P c st Q' :=
  fun q Γ a hp hs hl => wpIn_mono (h q Γ a hp hs hl) fun e a' w' ⟨Δ, st', h1, h2, h3, h4⟩ => ⟨Δ, st', h1, h2, h3, hq e st' h4⟩

/-- A loop: what it does is told apart. -/
def LoopW (P : Program) (hint : Nat → Nat) (c : IC) (st : St) (Q : Exit → St → Prop) : Prop := ∀ code, compC P hint code = some c → KeysOk P hint code → AW P (.loop code) st Q
/-- A loop over a function: likewise. -/
def RangeW (P : Program) (key nt : Nat) (o : Opd) (st : St) (Q : Exit → St → Prop) : Prop := ∀ f ps a b, opdP f = some o → lcP P key = ⟨ps, a, b⟩ → AW P (.rangeFunc f ps a b) st Q

def vc (P : Program) (hint : Nat → Nat) : IC → St → (Exit → St → Prop) → Prop
  | .skip, st, Q => Q .normal st
  | .reg is, st, Q => vops P is st (Q .normal)
  | .regD w is t, st, Q => vopsT P w is t st fun st' => ∃ st'', RenOk st.hp.length st' st'' ∧ Q .normal st''
  | .seq a b, st, Q => vc P hint a st fun e st' => match e with
    | .normal => vc P hint b st' Q
    | e => Q e st'
  | .cond c a b, st, Q => ∃ t, c.ev st.tm = .bool t ∧ (t = true → vc P hint a st Q) ∧ (t = false → vc P hint b st Q)
  | .block id c, st, Q => vc P hint c st fun e st' => match e with
    | .exit i => if i = id then Q .normal st' else Q (.exit i) st'
    | e => Q e st'
  | .loop c, st, Q => LoopW P hint c st Q
  | .exit id, st, Q => Q (.exit id) st
  | .ret, st, Q => Q .ret st
  | .rangeF key nt o, st, Q => RangeW P key nt o st Q

theorem Post.of {Γ Δ : Cx} {hp hp' : HP} {Q : Exit → St → Prop} (h : Ev Γ hp Δ hp') : ∀ {e : Exit} {a : Act} {w : World}, Post Δ hp' Q e a w → Post Γ hp Q e a w :=
  fun ⟨Θ, st, h1, h2, h3, h4⟩ => ⟨Θ, st, h1, h2, h.trans h3, h4⟩

theorem KeysOk.left {P : Program} {hint : Nat → Nat} {c x y : Code} (h : KeysOk P hint c) (e : keysOf hint c = keysOf hint x ++ keysOf hint y) : KeysOk P hint x ∧ KeysOk P hint y :=
  ⟨fun z hz => h z (by rw [e]; exact List.mem_append_left _ hz), fun z hz => h z (by rw [e]; exact List.mem_append_right _ hz)⟩
theorem plain_two {q : Option Nat} {c x y : Code} (h : q = none ∨ plainC c = true) (e : plainC c = (plainC x && plainC y)) : (q = none ∨ plainC x = true) ∧ (q = none ∨ plainC y = true) := by
  rcases h with h | h
  · exact ⟨.inl h, .inl h⟩
  · rw [e, Bool.and_eq_true] at h
    exact ⟨.inr h.1, .inr h.2⟩

theorem step_scopeR {P : Program} {b : Frame} {a : Act} {k : List Item} {cs : List Frame} {w : World} {c : Code} : step P (lone (b.atR a (.code (.scope c) :: k)) cs w) = .next (lone (b.atR a (.code c :: .inScope c :: k)) cs w) :=
  step_lone_go (by simp [stepG, stepG.exec, Frame.atR])
theorem step_inScopeR {P : Program} {b : Frame} {a : Act} {k : List Item} {cs : List Frame} {w : World} {c : Code} : step P (lone (b.atR a (.inScope c :: k)) cs w) = .next (lone (b.atR a k) cs w) :=
  step_lone_go (by simp [stepG, stepG.exec, Frame.atR])
theorem wpIn_scope_straight {F : Fence} {n : Nat} {P : Program} {Q : Exit → Act → World → Prop} {a : Act} {w : World} {c : Code} (h : c.wpIn F n P (Exit.noGoto Q) a w) : (Code.scope c).wpIn F n P Q a w := by
  intro b k cs hro hb hr
  have h0 : (lone (b.atR a (.code (.scope c) :: k)) cs w).fenced P F := fenced_calm hb hr rfl
  obtain ⟨e, a₁, w₁, hq, harr⟩ := h b (.inScope c :: k) cs hro hb hr
  cases e with
  | normal => exact ⟨.normal, a₁, w₁, hq, .head h0 step_scopeR (StepsIn.trans harr (.one (fenced_calm hb hr rfl) step_inScopeR))⟩
  | exit id =>
    have hx : exitTo id (.inScope c :: k) = exitTo id k := by simp [exitTo]
    exact ⟨.exit id, a₁, w₁, hq, fun k' hk => .head h0 step_scopeR (harr.1 k' (by rw [hx]; exact hk)),
      fun hr' hk => let ⟨k₁, h1, h2⟩ := harr.2 hr' (by rw [hx]; exact hk); ⟨k₁, h1, .head h0 step_scopeR h2⟩⟩
  | goto l => exact hq.elim
  | ret => exact ⟨_, a₁, w₁, hq, .of_steps (.one h0 step_scopeR) harr⟩
  | panic ch => exact ⟨_, a₁, w₁, hq, .of_steps (.one h0 step_scopeR) harr⟩
  | outgrown => exact ⟨_, a₁, w₁, hq, .of_steps (.one h0 step_scopeR) harr⟩

theorem vc_sound {P : Program} (hm : P.follows .mixedOrders = true) {hint : Nat → Nat} : ∀ {c : Code} {ic : IC}, compC P hint c = some ic → KeysOk P hint c → ∀ {st : St} {Q : Exit → St → Prop}, (∀ l st, ¬ Q (.goto l) st) → vc P hint ic st Q → AW P c st Q
  | .skip, ic, hc, hk, st, Q, _, h => by
    simp only [compC, Option.some.injEq] at hc; subst hc
    exact fun q Γ a hp hs hl => wpIn_skip ⟨Γ, st, rfl, hs, Ev.refl _ _, h⟩
  | .label l, ic, hc, hk, st, Q, _, h => by
    simp only [compC, Option.some.injEq] at hc; subst hc
    exact fun q Γ a hp hs hl => wpIn_label ⟨Γ, st, rfl, hs, Ev.refl _ _, h⟩
  | .region id ops false, ic, hc, hk, st, Q, _, h => by
    simp only [compC] at hc
    cases hco : compOps P (hint id == 1) ops ops.toList with
    | none => simp [hco] at hc
    | some is =>
      simp only [hco, Option.map_some, Option.some.injEq] at hc; subst hc
      obtain ⟨k1, k2⟩ := compOps_get hco
      intro q Γ a hp hs hl
      refine wpIn_region ?_
      have hv := vops_sound (P := P) (fz := hint id == 1) (ops := ops) q (is := is) 0 (fun j i hi => by
        have hlt : j < ops.toList.length := by rw [← k1]; exact (List.getElem?_eq_some_iff.1 hi).1
        have ho : ops.toList[j]? = some ops.toList[j] := List.getElem?_eq_getElem hlt
        refine ⟨ops.toList[j], by rw [Nat.zero_add]; rw [← Array.getElem?_toList]; exact ho, k2 j _ i ho hi⟩) hs hl h (Q' := Post Γ st.hp Q) fun Δ st' a' h1 h2 h3 => ⟨Δ, st', rfl, h1, h2, h3⟩
      rw [List.range_eq_range', show ops.size = is.length by rw [k1]; rfl]
      exact hv
  | .region id ops true, ic, hc, hk, st, Q, _, h => by
    simp only [compC] at hc
    split at hc
    · rename_i is hco
      split at hc
      · rename_i hlex
        simp only [Option.some.injEq] at hc; subst hc
        obtain ⟨k1, k2⟩ := compOps_get hco
        have hlen : is.length = ops.size := k1
        intro q Γ a hp hs hl
        refine wpIn_region_any hm ?_
        have hd : SSim (Γ.drewN 1) st a := ⟨hs.tm.le (Le.drewN Γ 1), hs.hp.drewN 1, hs.df.ev (Ev.drewN Γ st.hp 1)⟩
        have hA := anyA_tree (P := P) (ops := ops) hlen (ms := masks ops.toList []) (masks_ok ops.toList [] (fun k => by simp) (fun k m hm => by simp at hm)) ops.size _ (Array.replicate ops.size false) st (closed_none ops _) hlex h
        exact anyA_sound q (w := hintW (hint id)) (fz := Nat.blt (hint id % 8) 4) (Γ0 := Γ) (hp0 := st.hp) hlen (fun j o i ho hi => k2 j o i (by simpa using ho) hi) (Q' := Post Γ st.hp Q) (fun Δ st' a' h1 h2 h3 => by
          obtain ⟨st'', h4, h5⟩ := h3
          obtain ⟨Θ, k1, k2, k3⟩ := h4 Δ a' h1
          exact ⟨Θ, st'', k1, k2, k3 Γ st.hp (by rw [hs.hp.len]; exact Nat.le_refl _) h2, h5⟩) ops.size _ st (Γ.drewN 1) a hd hl (Ev.drewN Γ st.hp 1) hA
      · cases hc
    · cases hc
  | .seq x y, ic, hc, hk, st, Q, hng, h => by
    simp only [compC] at hc
    split at hc
    · rename_i ix iy hx hy
      simp only [Option.some.injEq] at hc; subst hc
      simp only [vc] at h
      obtain ⟨hk1, hk2⟩ := hk.left (x := x) (y := y) rfl
      intro q Γ a hp hs hl
      obtain ⟨hp1, hp2⟩ := plain_two hp (x := x) (y := y) rfl
      refine wpIn_seq (wpIn_mono (vc_sound hm hx hk1 (by intro l st' hq; exact hng l st' hq) h q Γ a hp1 hs hl) ?_)
      rintro e a' w' ⟨Δ, st', rfl, h2, h3, h4⟩
      cases e with
      | normal => exact wpIn_mono (vc_sound hm hy hk2 hng h4 q Δ a' hp2 h2 (h3.le.lc.trans hl)) fun e a'' w'' hp => Post.of h3 hp
      | exit id => exact ⟨Δ, st', rfl, h2, h3, h4⟩
      | goto l => exact ⟨Δ, st', rfl, h2, h3, h4⟩
      | ret => exact ⟨Δ, st', rfl, h2, h3, h4⟩
      | panic ch => exact ⟨Δ, st', rfl, h2, h3, h4⟩
      | outgrown => exact ⟨Δ, st', rfl, h2, h3, h4⟩
    · cases hc
  | .cond c x y, ic, hc, hk, st, Q, hng, h => by
    simp only [compC] at hc
    split at hc
    · rename_i o ix iy ho hx hy
      simp only [Option.some.injEq] at hc; subst hc
      simp only [vc] at h
      obtain ⟨hk1, hk2⟩ := hk.left (x := x) (y := y) rfl
      obtain ⟨t, ht, h1, h2⟩ := h
      intro q Γ a hp hs hl
      obtain ⟨hp1, hp2⟩ := plain_two hp (x := x) (y := y) rfl
      have hr := opd_rel hs.hp.gl hs.tm ho
      rw [ht] at hr
      simp only [VRel] at hr
      exact wpIn_cond_split hr (fun e => vc_sound hm hx hk1 hng (h1 e) q Γ a hp1 hs hl) (fun e => vc_sound hm hy hk2 hng (h2 e) q Γ a hp2 hs hl)
    · cases hc
  | .block id c, ic, hc, hk, st, Q, hng, h => by
    simp only [compC] at hc
    cases hx : compC P hint c with
    | none => simp [hx] at hc
    | some ix =>
      simp only [hx, Option.map_some, Option.some.injEq] at hc; subst hc
      simp only [vc] at h
      intro q Γ a hp hs hl
      refine wpIn_block (wpIn_mono (vc_sound hm hx hk (by intro l st' hq; exact hng l st' hq) h q Γ a hp hs hl) ?_)
      rintro e a' w' ⟨Δ, st', rfl, h2, h3, h4⟩
      cases e with
      | exit i =>
        simp only [Exit.inBlock]
        simp only at h4
        split
        · rename_i e; rw [if_pos e] at h4; exact ⟨Δ, st', rfl, h2, h3, h4⟩
        · rename_i e; rw [if_neg e] at h4; exact ⟨Δ, st', rfl, h2, h3, h4⟩
      | normal => exact ⟨Δ, st', rfl, h2, h3, h4⟩
      | goto l => exact ⟨Δ, st', rfl, h2, h3, h4⟩
      | ret => exact ⟨Δ, st', rfl, h2, h3, h4⟩
      | panic ch => exact ⟨Δ, st', rfl, h2, h3, h4⟩
      | outgrown => exact ⟨Δ, st', rfl, h2, h3, h4⟩
  | .loop c, ic, hc, hk, st, Q, hng, h => by
    simp only [compC] at hc
    cases hx : compC P hint c with
    | none => simp [hx] at hc
    | some ix =>
      simp only [hx, Option.map_some, Option.some.injEq] at hc; subst hc
      simp only [vc] at h
      exact h c hx hk
  | .exit id, ic, hc, hk, st, Q, _, h => by
    simp only [compC, Option.some.injEq] at hc; subst hc
    exact fun q Γ a hp hs hl => wpIn_exit ⟨Γ, st, rfl, hs, Ev.refl _ _, h⟩
  | .ret, ic, hc, hk, st, Q, _, h => by
    simp only [compC, Option.some.injEq] at hc; subst hc
    exact fun q Γ a hp hs hl => wpIn_ret ⟨Γ, st, rfl, hs, Ev.refl _ _, h⟩
  | .scope c, ic, hc, hk, st, Q, hng, h => by
    simp only [compC] at hc
    intro q Γ a hp hs hl
    refine wpIn_scope_straight (wpIn_mono (vc_sound hm hc hk hng h q Γ a hp hs hl) ?_)
    rintro e a' w' ⟨Δ, st', rfl, h2, h3, h4⟩
    cases e with
    | goto l => exact hng l st' h4
    | _ => exact ⟨Δ, st', rfl, h2, h3, h4⟩
  | .rangeFunc f ps x y, ic, hc, hk, st, Q, hng, h => by
    simp only [compC] at hc
    split at hc
    · cases ho : opdP f with
      | none => simp [ho] at hc
      | some o =>
        simp only [ho, Option.map_some, Option.some.injEq] at hc
        subst hc
        simp only [vc] at h
        exact h f ps x y ho (hk (hint (1000000 + firstReg x y), ⟨ps, x, y⟩) (by simp [keysOf]))
    · cases hc
  | .goto l, ic, hc, hk, st, Q, _, h => by simp [compC] at hc
  | .refuse w, ic, hc, hk, st, Q, _, h => by simp [compC] at hc

/-- A loop, by a relation that holds at each round's head, and a number that goes down. -/
theorem LoopW.of {P : Program} (hm : P.follows .mixedOrders = true) {hint : Nat → Nat} {c : IC} {st : St} {Q : Exit → St → Prop} (hng : ∀ l st, ¬ Q (.goto l) st) (I : Nat → St → Prop) (n : Nat) (h0 : I n st)
    (round : ∀ n st, I n st → vc P hint c st fun e st' => match e with
      | .normal => ∃ m, m < n ∧ I m st'
      | e => Q e st') : LoopW P hint c st Q := by
  intro code hc hk q Γ a hp hs hl
  refine wpIn_loop_ghost (fun n a' w' => ∃ Δ st', Δ.w = w' ∧ SSim Δ st' a' ∧ Ev Γ st.hp Δ st'.hp ∧ I n st') n ⟨Γ, st, rfl, hs, Ev.refl _ _, h0⟩ ?_
  rintro n a' w' ⟨Δ, st', rfl, h1, h2, h3⟩
  refine wpIn_mono (vc_sound hm hc hk (by intro l st'' hq; exact hng l st'' hq) (round n st' h3) q Δ a' hp h1 (h2.le.lc.trans hl)) ?_
  rintro e a'' w'' ⟨Θ, st'', rfl, q1, q2, q3⟩
  cases e with
  | normal =>
    obtain ⟨m, hm', hI⟩ := q3
    exact ⟨m, hm', Θ, st'', rfl, q1, h2.trans q2, hI⟩
  | exit id => exact ⟨Θ, st'', rfl, q1, h2.trans q2, q3⟩
  | goto l => exact ⟨Θ, st'', rfl, q1, h2.trans q2, q3⟩
  | ret => exact ⟨Θ, st'', rfl, q1, h2.trans q2, q3⟩
  | panic ch => exact ⟨Θ, st'', rfl, q1, h2.trans q2, q3⟩
  | outgrown => exact ⟨Θ, st'', rfl, q1, h2.trans q2, q3⟩

/-! ### What a function hands back -/
inductive RV where
  | t (i : Nat)
  | cell (i : Nat) (sh : Option Nat)

def resP (P : Program) : List ResultVar → Option (List RV)
  | [] => some []
  | .tmp i :: rs => (resP P rs).map (.t i :: ·)
  | .cell i ty :: rs => match shapeP P ty, resP P rs with
    | some sh, some l => some (.cell i sh :: l)
    | _, _ => none

def resA1 (st : St) : RV → Option AV
  | .t i => some (st.tm.getD i (.tup []))
  | .cell i sh => loadA st.hp sh (st.tm.getD i (.tup []))
def resL (st : St) : List RV → Option (List AV)
  | [] => some []
  | r :: rs => match resA1 st r, resL st rs with
    | some a, some as => some (a :: as)
    | _, _ => none
/-- One result, or a tuple of them. -/
def resA (rs : List RV) (st : St) : Option AV :=
  match resL st rs with
  | some [a] => some a
  | some as => some (.tup as)
  | none => none

theorem results_run {P : Program} {fn : Func} {rs : List RV} (hr : resP P fn.results.toList = some rs) {Γ : Cx} {st : St} {a : Act} (hs : SSim Γ st a) {r : AV} (h : resA rs st = some r) : ∃ v, (results fn a.tmps).run P Γ.w = .ok v Γ.w ∧ VRel Γ r v := by
  have key : ∀ (l : List ResultVar) (rs : List RV) (as : List AV), resP P l = some rs → resL st rs = some as → ∃ vs, (l.mapM (fun | .tmp t => pure (a.tmps.getD t undef) | .cell x t => do loadVar t (← asAddr (a.tmps.getD x undef)) : ResultVar → Sem Value)).run P Γ.w = .ok vs Γ.w ∧ VRels Γ as vs := by
    intro l
    induction l with
    | nil =>
      intro rs as h1 h2
      simp only [resP, Option.some.injEq] at h1
      subst h1
      simp only [resL, Option.some.injEq] at h2
      subst h2
      exact ⟨[], rfl, by simp [VRels]⟩
    | cons x l ih =>
      intro rs as h1 h2
      have hget : ∀ i, VRel Γ (st.tm.getD i (.tup [])) (a.tmps.getD i undef) := by
        intro i
        have := hs.tm.get i
        rw [Array.getD_eq_getD_getElem?]
        rw [List.getD_eq_getElem?_getD (l := a.tmps.toList)] at this
        simpa using this
      cases x with
      | tmp i =>
        simp only [resP] at h1
        cases hp : resP P l with
        | none => simp [hp] at h1
        | some rs' =>
          simp only [hp, Option.map_some, Option.some.injEq] at h1
          subst h1
          simp only [resL, resA1] at h2
          split at h2
          · rename_i b bs e1 e2
            simp only [Option.some.injEq] at e1 h2
            subst e1 h2
            obtain ⟨vs, q1, q2⟩ := ih rs' bs hp e2
            exact ⟨a.tmps.getD i undef :: vs, by simp only [List.mapM_cons, Sem.run_bind, Sem.run_pure, Result.andThen_ok, q1], by simp only [VRels]; exact ⟨_, _, rfl, hget i, q2⟩⟩
          · cases h2
      | cell i ty =>
        simp only [resP] at h1
        split at h1
        · rename_i sh rs' hsh hp
          simp only [Option.some.injEq] at h1
          subst h1
          simp only [resL, resA1] at h2
          split at h2
          · rename_i b bs e1 e2
            simp only [Option.some.injEq] at h2
            subst h2
            obtain ⟨vs, q1, q2⟩ := ih rs' bs hp e2
            simp only [loadA] at e1
            split at e1
            · rename_i cs off hrow
              obtain ⟨bb, o, hv, hc⟩ := rowA_rel hs.hp (hget i) hrow
              obtain ⟨u, p1, p2⟩ := pickA_run (P := P) hsh hc e1
              have hA : (asAddr (a.tmps.getD i undef)).run P Γ.w = .ok ⟨bb, o + off, none⟩ Γ.w := by rw [hv]; rfl
              exact ⟨u :: vs, by simp only [List.mapM_cons, Sem.run_bind, Sem.run_pure, Result.andThen_ok, hA, p1, q1], by simp only [VRels]; exact ⟨_, _, rfl, p2, q2⟩⟩
            · cases e1
          · cases h2
        · cases h1
  unfold resA at h
  have fin : ∀ as vs, (fn.results.toList.mapM (fun | .tmp t => pure (a.tmps.getD t undef) | .cell x t => do loadVar t (← asAddr (a.tmps.getD x undef)) : ResultVar → Sem Value)).run P Γ.w = .ok vs Γ.w → VRels Γ as vs →
      (results fn a.tmps).run P Γ.w = .ok (if h : vs.toArray.size = 1 then vs.toArray[0] else .tuple vs.toArray) Γ.w := by
    intro as vs h1 _
    unfold results
    simp only [Sem.run_bind, Array.mapM_eq_mapM_toList, Sem.run_map, Sem.run_pure]
    exact congrArg (fun r : Result (List Value) => (r.andThen fun a w' => Result.ok a.toArray w').andThen fun a w' => Result.ok (if h : a.size = 1 then a[0] else Value.tuple a) w') h1
  split at h
  · rename_i b hL
    simp only [Option.some.injEq] at h
    subst h
    obtain ⟨vs, q1, q2⟩ := key _ _ _ hr hL
    obtain ⟨v, rfl, hv⟩ := q2.one'
    exact ⟨v, by rw [fin _ _ q1 q2]; rfl, hv⟩
  · rename_i as hne hL
    simp only [Option.some.injEq] at h
    subst h
    obtain ⟨vs, q1, q2⟩ := key _ _ _ hr hL
    refine ⟨.tuple ⟨vs⟩, ?_, by simp only [VRel]; exact ⟨vs, rfl, q2⟩⟩
    rw [fin _ _ q1 q2, dif_neg]
    intro h1
    have hl := q2.length
    simp only [List.size_toArray] at h1
    rcases as with _ | ⟨b, _ | ⟨c, as⟩⟩
    · simp at hl; omega
    · exact hne b rfl
    · simp at hl; omega
  · cases h

/-- A function, compiled: its code, how many temporaries, its results. -/
structure FC where
  code : IC
  ntmps : Nat
  res : List RV

def compF (P : Program) (hint : Nat → Nat) (f : FuncId) : Option FC :=
  match P.funcs[f]? with
  | some fn => if fn.name == "runtime.NumGoroutine" then none else match fn.body with
    | some c => match compC P hint c, resP P fn.results.toList with
      | some ic, some rs => some ⟨ic, fn.ntmps, rs⟩
      | _, _ => none
    | none => none
  | none => none

/-- What a call begins with. -/
def enterA (g : FC) (xs : List AV) (hp : HP) : St := ⟨xs ++ List.replicate (g.ntmps - xs.length) (.tup []), hp⟩

def RetQ (g : FC) (K : AV → HP → Prop) : Exit → St → Prop
  | .normal, st | .ret, st => ∃ r, resA g.res st = some r ∧ K r st.hp
  | _, _ => False

/-- The function's loops over functions have the program's numbers. -/
def KeysF (P : Program) (hint : Nat → Nat) (f : FuncId) : Prop := ∀ fn c, P.funcs[f]? = some fn → fn.body = some c → KeysOk P hint c

/-- Another start of the activation. -/
def Cx.from_ (Γ : Cx) (s : Nat) : Cx := { Γ with s0 := s }
theorem Le.from_ (Γ : Cx) (s : Nat) : Le Γ (Γ.from_ s) := ⟨Nat.le_refl _, fun _ _ => rfl, fun _ h => h, fun _ _ => rfl, fun _ _ h => h, rfl⟩
theorem HSim.from_ {Γ : Cx} {hp : HP} (h : HSim Γ hp) (s : Nat) : HSim (Γ.from_ s) hp := ⟨h.len, fun i x hx => ⟨BRel.le (Le.from_ Γ s) rfl (h.blk i x hx).1, (h.blk i x hx).2⟩, h.inj, h.fz, h.gl.le (Le.from_ Γ s)⟩
theorem Ev.from_ {Γ Δ : Cx} {hp hp' : HP} {s : Nat} (h : Ev (Γ.from_ s) hp Δ hp') : Ev Γ hp (Δ.from_ Γ.s0) hp' :=
  ⟨⟨h.le.n, h.le.β, h.le.fz, h.le.kept, h.le.shape, h.le.lc⟩, h.os, h.tape, h.output, h.size, h.frame, h.live, h.fz, rfl⟩

/-- The marks go. -/
theorem leave_marks {P : Program} {fn : Func} {tmps : Array Value} {R : Ending → World → Prop} : ∀ (ks : List Nat) (Δ : Cx) (hp : HP) (Γ : Cx) (hp0 : HP), HSim Δ hp → Ev Γ hp0 Δ hp → ks.Nodup → (∀ k ∈ ks, Δ.w.heap[k]? = some (.deferred (some [])) ∧ ¬ Live Δ hp k ∧ ¬ Δ.Fz k ∧ Γ.w.heap.size ≤ k) →
    (∀ Θ : Cx, HSim Θ hp → Le Δ Θ → Ev Γ hp0 Θ hp → LeavesInM (Fw none) 0 P fn tmps R [] .returning Θ.w) → LeavesInM (Fw none) 0 P fn tmps R (ks.map fun k => { target := .collected k, args := #[] }) .returning Δ.w
  | [], Δ, hp, Γ, hp0, h1, h2, _, _, hr => hr Δ h1 (Le.refl _) h2
  | k :: ks, Δ, hp, Γ, hp0, h1, h2, hnd, hk, hr => by
    obtain ⟨q1, q2, q3, q4⟩ := hk k (by simp)
    have hlt : k < Δ.w.heap.size := (Array.getElem?_eq_some_iff.1 q1).1
    have le : Le Δ (Δ.setB k (.deferred none)) := Le.setB q3 (by intro s hs; simp [World.shape?, q1] at hs)
    have hw : Δ.w.putObj k (.deferred none) = (Δ.setB k (.deferred none)).w := rfl
    have hh : HSim (Δ.setB k (.deferred none)) hp := ⟨h1.len, fun i x hx => by
      obtain ⟨p1, p2, p3⟩ := h1.blk i x hx
      exact ⟨BRel.le le (setB_ne _ _ fun e => q2 ⟨i, x, hx, e⟩) p1, p2, by simp only [Cx.setB, setB_size]; exact p3⟩, h1.inj, fun b hb => by simp only [Cx.setB, setB_size]; exact h1.fz b hb, h1.gl.le le⟩
    have he : Ev Γ hp0 (Δ.setB k (.deferred none)) hp := ⟨h2.le.trans le, h2.os, h2.tape, h2.output, by simp only [Cx.setB, setB_size]; exact h2.size, fun b hb hn => (setB_ne _ _ (by omega)).trans (h2.frame b hb hn), h2.live, h2.fz, h2.s0⟩
    simp only [List.map_cons, LeavesInM]
    refine ⟨by simp, .inl ⟨k, _, rfl, run_takeDeferred q1, ?_⟩⟩
    rw [hw]
    rw [List.nodup_cons] at hnd
    refine leave_marks ks _ hp Γ hp0 hh he hnd.2 (fun j hj => ?_) fun Θ k1 k2 k3 => hr Θ k1 (le.trans k2) k3
    obtain ⟨p1, p2, p3, p4⟩ := hk j (by simp [hj])
    have hne : j ≠ k := fun e => hnd.1 (e ▸ hj)
    exact ⟨(setB_ne _ _ hne).trans p1, p2, p3, p4⟩

theorem calls_vc {P : Program} (hm : P.follows .mixedOrders = true) {hint : Nat → Nat} {f : FuncId} {g : FC} (hf : compF P hint f = some g) (hkeys : KeysF P hint f) {xs : List AV} {hp : HP} {K : AV → HP → Prop} (h : vc P hint g.code (enterA g xs hp) (RetQ g K)) : ACalls P f xs hp K := by
  unfold compF at hf
  split at hf
  · rename_i fn hfn
    split at hf
    · cases hf
    · rename_i hname
      split at hf
      · rename_i c hbody
        split at hf
        · rename_i ic rs hc hr
          simp only [Option.some.injEq] at hf
          subst hf
          refine ⟨⟨fn, hfn, by simpa using hname, by rw [hbody]; rfl⟩, fun Γ vs hh hl hx => ?_⟩
          refine (callsIn_wide (n := 0)).1 (callsIn_of_wp_marks hfn hbody trivial ?_)
          have hl' := hx.length
          have hs : SSim (Γ.from_ Γ.w.heap.size) (enterA ⟨ic, fn.ntmps, rs⟩ xs hp) { tmps := (⟨vs⟩ : Array Value) ++ Array.replicate (fn.ntmps - (⟨vs⟩ : Array Value).size) undef, defers := [] } := by
            refine ⟨?_, hh.from_ _, MarksOk.nil (Nat.le_refl _) _⟩
            simp only [enterA]
            have := (hx.append (VRels.reps (undef_rel Γ) (fn.ntmps - xs.length))).le (Le.from_ Γ Γ.w.heap.size)
            rw [hl'] at this ⊢
            simpa using this
          have fin : ∀ (Δ : Cx) (st' : St) (a' : Act), SSim Δ st' a' → Ev (Γ.from_ Γ.w.heap.size) hp Δ st'.hp → (∃ r, resA rs st' = some r ∧ K r st'.hp) → LeavesInM (Fw none) 0 P fn a'.tmps (fun e w' => ∃ v r hp' Δ, e = .returned v ∧ Δ.w = w' ∧ VRel Δ r v ∧ HSim Δ hp' ∧ Ev Γ hp Δ hp' ∧ K r hp') a'.defers .returning Δ.w := by
            intro Δ st' a' h2 h3 ⟨r, hr', hk⟩
            obtain ⟨_, ks, e1, e2, e3⟩ := h2.df
            rw [e1]
            refine leave_marks ks Δ st'.hp (Γ.from_ Γ.w.heap.size) hp h2.hp h3 e2 (fun k hk => ?_) ?_
            · obtain ⟨p1, p2, p3, p4⟩ := e3 k hk
              exact ⟨p1, p2, p3, by rw [h3.s0] at p4; exact p4⟩
            · intro Θ k1 k2 k3
              have h2' : SSim Θ st' { a' with defers := [] } := ⟨h2.tm.le k2, k1, MarksOk.nil (by rw [k3.s0]; exact k3.size) _⟩
              obtain ⟨v, q1, q2⟩ := results_run (fn := fn) hr h2' hr'
              simp only [LeavesInM, LeavesIn]
              exact ⟨_, q1, v, r, st'.hp, Θ.from_ Γ.s0, rfl, rfl, q2.le (Le.from_ _ _), k1.from_ _, k3.from_, hk⟩
          refine wpIn_mono (vc_sound hm hc (hkeys fn c hfn hbody) (Q := RetQ ⟨ic, fn.ntmps, rs⟩ K) (by intro l st hq; exact hq) h none (Γ.from_ Γ.w.heap.size) _ (.inl rfl) hs hl) ?_
          rintro e a' w' ⟨Δ, st', rfl, h2, h3, h4⟩
          cases e with
          | normal => exact fin Δ st' a' h2 h3 h4
          | ret => exact fin Δ st' a' h2 h3 h4
          | exit id => exact h4.elim
          | goto l => exact h4.elim
          | panic ch => exact h4.elim
          | outgrown => exact h4.elim
        · cases hf
      · cases hf
  · cases hf

end Go.Gi
