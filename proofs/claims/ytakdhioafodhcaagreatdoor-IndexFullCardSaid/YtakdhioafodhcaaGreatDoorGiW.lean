/- Blocks of ours under other names: what is not named any more is forgotten. -/
import Derived.Test.YtakdhioafodhcaaGreatDoorGiL
set_option linter.unusedVariables false
set_option linter.unusedSimpArgs false
namespace Go.Gi
open Go

mutual
/-- Other names, where each name has one. -/
def ren (f : Nat → Option Nat) : AV → Option AV
  | .int k n => some (.int k n)
  | .bool b => some (.bool b)
  | .str s => some (.str s)
  | .nilp => some .nilp
  | .nils => some .nils
  | .esl => some .esl
  | .enn => some .enn
  | .nilm => some .nilm
  | .nilf => some .nilf
  | .nili => some .nili
  | .unk => some .unk
  | .ptr id off => match f id with
    | some j => some (.ptr j off)
    | none => none
  | .sl id off len sz lo ex => match f id with
    | some j => some (.sl j off len sz lo ex)
    | none => none
  | .map id => match f id with
    | some j => some (.map j)
    | none => none
  | .yld id => match f id with
    | some j => some (.yld j)
    | none => none
  | .bound g cs => match renL f cs with
    | some cs' => some (.bound g cs')
    | none => none
  | .fptr cs off => match renL f cs with
    | some cs' => some (.fptr cs' off)
    | none => none
  | .fsl cs len => match renL f cs with
    | some cs' => some (.fsl cs' len)
    | none => none
  | .func g cs => match renL f cs with
    | some cs' => some (.func g cs')
    | none => none
  | .agg cs => match renL f cs with
    | some cs' => some (.agg cs')
    | none => none
  | .tup cs => match renL f cs with
    | some cs' => some (.tup cs')
    | none => none
  | .iface t a => match ren f a with
    | some a' => some (.iface t a')
    | none => none
def renL (f : Nat → Option Nat) : List AV → Option (List AV)
  | [] => some []
  | a :: as => match ren f a, renL f as with
    | some a', some as' => some (a' :: as')
    | _, _ => none
end
def renB (f : Nat → Option Nat) : Option Blk → Option (Option Blk)
  | none => some none
  | some (.row e cs) => match renL f cs with
    | some cs' => some (some (.row e cs'))
    | none => none
  | some (.iter is since seen last) => match renL f is with
    | some is' => some (some (.iter is' since seen last))
    | none => none
  | some (.map es bs c) => match renL f (es.map (·.1)), renL f (es.map (·.2)) with
    | some ks, some vs => some (some (.map (ks.zip vs) bs c))
    | _, _ => none
  | some (.loop tms key st pend) => match renL f tms with
    | some tms' => some (some (.loop tms' key st pend))
    | none => none
def renH (f : Nat → Option Nat) : HP → Option HP
  | [] => some []
  | b :: hp => match renB f b, renH f hp with
    | some b', some hp' => some (b' :: hp')
    | _, _ => none

/-- The names go over. -/
structure Goes (Γ Δ : Cx) (f : Nat → Option Nat) : Prop where
  w : Δ.w = Γ.w
  fz : ∀ b, Γ.Fz b → Δ.Fz b
  lc : Δ.lc = Γ.lc
  id : ∀ i j, i < Γ.n → f i = some j → j < Δ.n ∧ Δ.β j = Γ.β i

mutual
theorem ren_rel {Γ Δ : Cx} {f : Nat → Option Nat} (g : Goes Γ Δ f) : ∀ {a a' : AV} {v : Value}, ren f a = some a' → VRel Γ a v → VRel Δ a' v
  | .int _ _, _, v, h, hv | .bool _, _, v, h, hv | .str _, _, v, h, hv | .nilp, _, v, h, hv | .nils, _, v, h, hv | .esl, _, v, h, hv | .enn, _, v, h, hv | .nilm, _, v, h, hv | .nilf, _, v, h, hv | .nili, _, v, h, hv | .unk, _, v, h, hv => by
    simp only [ren, Option.some.injEq] at h
    subst h
    simpa only [VRel] using hv
  | .ptr id off, _, v, h, hv => by
    simp only [ren] at h
    split at h
    · rename_i j hj
      cases h
      simp only [VRel] at hv ⊢
      obtain ⟨h1, h2⟩ := g.id id j hv.1 hj
      rw [h2]
      exact ⟨h1, hv.2⟩
    · cases h
  | .map id, _, v, h, hv => by
    simp only [ren] at h
    split at h
    · rename_i j hj
      cases h
      simp only [VRel] at hv ⊢
      obtain ⟨h1, h2⟩ := g.id id j hv.1 hj
      rw [h2]
      exact ⟨h1, hv.2⟩
    · cases h
  | .yld id, _, v, h, hv => by
    simp only [ren] at h
    split at h
    · rename_i j hj
      cases h
      simp only [VRel] at hv ⊢
      obtain ⟨h1, h2⟩ := g.id id j hv.1 hj
      rw [h2]
      exact ⟨h1, hv.2⟩
    · cases h
  | .bound q cs, _, v, h, hv => by
    simp only [ren] at h
    split at h
    · rename_i cs' hc
      cases h
      simp only [VRel] at hv ⊢
      obtain ⟨vs, h1, h2⟩ := hv
      exact ⟨vs, h1, renL_rel g hc h2⟩
    · cases h
  | .sl id off len sz lo ex, _, v, h, hv => by
    simp only [ren] at h
    split at h
    · rename_i j hj
      cases h
      simp only [VRel] at hv ⊢
      obtain ⟨h1, h2⟩ := g.id id j hv.1 hj
      rw [h2, g.w]
      exact ⟨h1, hv.2⟩
    · cases h
  | .fptr cs off, _, v, h, hv => by
    simp only [ren] at h
    split at h
    · rename_i cs' hc
      cases h
      simp only [VRel] at hv ⊢
      obtain ⟨b, o, h1, h2, h3⟩ := hv
      exact ⟨b, o, h1, g.fz b h2, renC_rel g hc h3⟩
    · cases h
  | .fsl cs len, _, v, h, hv => by
    simp only [ren] at h
    split at h
    · rename_i cs' hc
      cases h
      simp only [VRel] at hv ⊢
      rcases hv with ⟨h1, h2, h3⟩ | ⟨b, o, c, h1, h2, h3, h4⟩
      · subst h3
        simp only [renL, Option.some.injEq] at hc
        exact .inl ⟨h1, h2, hc.symm⟩
      · refine .inr ⟨b, o, c, h1, h2, ?_, renC_rel g hc h4⟩
        rcases h3 with rfl | h3
        · simp only [renL, Option.some.injEq] at hc
          exact .inl hc.symm
        · exact .inr (g.fz b h3)
    · cases h
  | .func q cs, _, v, h, hv => by
    simp only [ren] at h
    split at h
    · rename_i cs' hc
      cases h
      simp only [VRel] at hv ⊢
      obtain ⟨vs, h1, h2⟩ := hv
      exact ⟨vs, h1, renL_rel g hc h2⟩
    · cases h
  | .agg cs, _, v, h, hv => by
    simp only [ren] at h
    split at h
    · rename_i cs' hc
      cases h
      simp only [VRel] at hv ⊢
      obtain ⟨vs, h1, h2, h3⟩ := hv
      exact ⟨vs, h1, renL_rel g hc h2, h3⟩
    · cases h
  | .tup cs, _, v, h, hv => by
    simp only [ren] at h
    split at h
    · rename_i cs' hc
      cases h
      simp only [VRel] at hv ⊢
      obtain ⟨vs, h1, h2⟩ := hv
      exact ⟨vs, h1, renL_rel g hc h2⟩
    · cases h
  | .iface t a, _, v, h, hv => by
    simp only [ren] at h
    split at h
    · rename_i a' hc
      cases h
      simp only [VRel] at hv ⊢
      obtain ⟨u, h1, h2⟩ := hv
      exact ⟨u, h1, ren_rel g hc h2⟩
    · cases h
theorem renL_rel {Γ Δ : Cx} {f : Nat → Option Nat} (g : Goes Γ Δ f) : ∀ {as as' : List AV} {vs : List Value}, renL f as = some as' → VRels Γ as vs → VRels Δ as' vs
  | [], _, vs, h, hv => by
    simp only [renL, Option.some.injEq] at h
    subst h
    simpa only [VRels] using hv
  | a :: as, _, vs, h, hv => by
    simp only [renL] at h
    split at h
    · rename_i a' as' h1 h2
      cases h
      simp only [VRels] at hv ⊢
      obtain ⟨u, us, h3, h4, h5⟩ := hv
      exact ⟨u, us, h3, ren_rel g h1 h4, renL_rel g h2 h5⟩
    · cases h
theorem renC_rel {Γ Δ : Cx} {f : Nat → Option Nat} (g : Goes Γ Δ f) : ∀ {as as' : List AV} {b o : Nat}, renL f as = some as' → CellsAt Γ as b o → CellsAt Δ as' b o
  | [], _, b, o, h, hv => by
    simp only [renL, Option.some.injEq] at h
    subst h
    simp only [CellsAt]
  | a :: as, _, b, o, h, hv => by
    simp only [renL] at h
    split at h
    · rename_i a' as' h1 h2
      cases h
      simp only [CellsAt] at hv ⊢
      obtain ⟨⟨u, h3, h4, h5⟩, h6⟩ := hv
      exact ⟨⟨u, by rw [g.w]; exact h3, h4, ren_rel g h1 h5⟩, renC_rel g h2 h6⟩
    · cases h
end

theorem renL_length {f : Nat → Option Nat} : ∀ {as as' : List AV}, renL f as = some as' → as'.length = as.length
  | [], _, h => by simp only [renL, Option.some.injEq] at h; subst h; rfl
  | a :: as, _, h => by
    simp only [renL] at h
    split at h
    · rename_i a' as' h1 h2
      cases h
      simp only [List.length_cons, renL_length h2]
    · cases h
theorem renH_length {f : Nat → Option Nat} : ∀ {hp hp' : HP}, renH f hp = some hp' → hp'.length = hp.length
  | [], _, h => by simp only [renH, Option.some.injEq] at h; subst h; rfl
  | b :: hp, _, h => by
    simp only [renH] at h
    split at h
    · rename_i b' hp' h1 h2
      cases h
      simp only [List.length_cons, renH_length h2]
    · cases h
theorem renH_get {f : Nat → Option Nat} : ∀ {hp hp' : HP}, renH f hp = some hp' → ∀ (i : Nat) (x : Option Blk), hp'[i]? = some x → ∃ b : Option Blk, hp[i]? = some b ∧ renB f b = some x
  | [], _, h, i, x, hx => by simp only [renH, Option.some.injEq] at h; subst h; simp at hx
  | b :: hp, _, h, i, x, hx => by
    simp only [renH] at h
    split at h
    · rename_i b' hp' h1 h2
      cases h
      cases i with
      | zero => simp only [List.getElem?_cons_zero, Option.some.injEq] at hx; subst hx; exact ⟨b, rfl, h1⟩
      | succ i => simp only [List.getElem?_cons_succ] at hx ⊢; exact renH_get h2 i x hx
    · cases h

theorem renB_rel {Γ Δ : Cx} {f : Nat → Option Nat} (g : Goes Γ Δ f) {b : Option Blk} {x : Blk} (h : renB f b = some (some x)) : ∃ y, b = some y ∧ ∀ p, BRel Γ p y → BRel Δ p x := by
  unfold renB at h
  split at h
  · cases h
  · rename_i e cs
    split at h
    · rename_i cs' hc
      cases h
      refine ⟨_, rfl, fun p hp => ?_⟩
      simp only [BRel] at hp ⊢
      rw [g.w]
      exact ⟨hp.1, renC_rel g hc hp.2⟩
    · cases h
  · rename_i is since seen last
    split at h
    · rename_i is' h1
      cases h
      refine ⟨_, rfl, fun p hp => ?_⟩
      simp only [BRel] at hp ⊢
      obtain ⟨mo, q1, q2⟩ := hp
      exact ⟨mo, by rw [g.w]; exact q1, renL_rel g h1 q2⟩
    · cases h
  · rename_i es bs c
    split at h
    · rename_i ks vs h1 h2
      cases h
      refine ⟨_, rfl, fun p hp => ?_⟩
      simp only [BRel] at hp ⊢
      obtain ⟨ms, clock, q1, q2, q3, q4, q5, q6⟩ := hp
      have l1 := renL_length h1
      have l2 := renL_length h2
      simp only [List.length_map] at l1 l2
      refine ⟨ms, clock, by rw [g.w]; exact q1, q2, q3, ?_, ?_, q6⟩
      · rw [List.map_fst_zip (by omega)]
        exact renL_rel g h1 q4
      · rw [List.map_snd_zip (by omega)]
        exact renL_rel g h2 q5
    · cases h
  · rename_i tms key st pend
    split at h
    · rename_i tms' h1
      cases h
      refine ⟨_, rfl, fun p hp => ?_⟩
      simp only [BRel] at hp ⊢
      obtain ⟨fn, vs, d, q1, q2⟩ := hp
      exact ⟨fn, vs, d, by rw [g.w, g.lc]; exact q1, renL_rel g h1 q2⟩
    · cases h

/-- The place of a number in a list, from k on. -/
def placeIn (i : Nat) : List Nat → Nat → Option Nat
  | [], _ => none
  | j :: l, k => cond (Nat.beq i j) (some k) (placeIn i l (k + 1))
theorem placeIn_some {i : Nat} : ∀ {l : List Nat} {k j : Nat}, placeIn i l k = some j → k ≤ j ∧ l[j - k]? = some i
  | [], k, j, h => by simp [placeIn] at h
  | x :: l, k, j, h => by
    simp only [placeIn] at h
    cases hb : Nat.beq i x
    · rw [hb] at h
      obtain ⟨h1, h2⟩ := placeIn_some (l := l) h
      refine ⟨by omega, ?_⟩
      rw [show j - k = (j - (k + 1)) + 1 by omega]
      exact h2
    · rw [hb] at h
      cases h
      have := Nat.eq_of_beq_eq_true hb
      subst this
      exact ⟨Nat.le_refl _, by simp⟩
/-- Names below K stay; the others are as in the list. -/
def nameAs (K : Nat) (ord : List Nat) (i : Nat) : Option Nat := cond (Nat.blt i K) (some i) (placeIn i ord K)
def noDups : List Nat → Bool
  | [] => true
  | i :: l => (placeIn i l 0).isNone && noDups l
theorem placeIn_none {i : Nat} : ∀ {l : List Nat} {k : Nat}, placeIn i l k = none → i ∉ l
  | [], k, _ => by simp
  | x :: l, k, h => by
    simp only [placeIn] at h
    cases hb : Nat.beq i x
    · rw [hb] at h
      simp only [cond_false] at h
      rw [List.mem_cons, not_or]
      refine ⟨fun e => ?_, placeIn_none h⟩
      subst e
      rw [Nat.beq_refl] at hb
      cases hb
    · rw [hb] at h; cases h
theorem noDups_inj : ∀ {l : List Nat}, noDups l = true → ∀ {a b x : Nat}, l[a]? = some x → l[b]? = some x → a = b
  | [], _, a, b, x, h, _ => by simp at h
  | y :: l, hd, a, b, x, h, k => by
    simp only [noDups, Bool.and_eq_true, Option.isNone_iff_eq_none] at hd
    have hn := placeIn_none hd.1
    cases a with
    | zero =>
      cases b with
      | zero => rfl
      | succ b =>
        simp only [List.getElem?_cons_zero, Option.some.injEq, List.getElem?_cons_succ] at h k
        subst h
        exact absurd (List.mem_of_getElem? k) hn
    | succ a =>
      cases b with
      | zero =>
        simp only [List.getElem?_cons_zero, Option.some.injEq, List.getElem?_cons_succ] at h k
        subst k
        exact absurd (List.mem_of_getElem? h) hn
      | succ b =>
        simp only [List.getElem?_cons_succ] at h k
        rw [noDups_inj hd.2 h k]
/-- The blocks of the list, in its order. -/
def picks (hp : HP) : List Nat → HP
  | [] => []
  | i :: l => (match hp[i]? with
    | some b => b
    | none => none) :: picks hp l
theorem picks_get {hp : HP} : ∀ {l : List Nat} {j : Nat} {x : Blk}, (picks hp l)[j]? = some (some x) → ∃ i, l[j]? = some i ∧ hp[i]? = some (some x)
  | [], j, x, h => by simp [picks] at h
  | i :: l, 0, x, h => by
    simp only [picks, List.getElem?_cons_zero, Option.some.injEq] at h
    refine ⟨i, rfl, ?_⟩
    split at h
    · rename_i b hb
      rw [hb, h]
    · cases h
  | i :: l, j + 1, x, h => by
    simp only [picks, List.getElem?_cons_succ] at h ⊢
    exact picks_get h
theorem picks_length {hp : HP} : ∀ {l : List Nat}, (picks hp l).length = l.length
  | [] => rfl
  | _ :: l => by simp only [picks, List.length_cons, picks_length]

/-- The memory under other names: below K as they are, then those of the list. -/
def renamed (K : Nat) (ord : List Nat) (hp : HP) : Option HP := cond (Nat.ble K hp.length && noDups ord && ord.all (fun i => Nat.ble K i && Nat.blt i hp.length)) (renH (nameAs K ord) (hp.take K ++ picks hp ord)) none

/-- What stands for a state under one memory's names does so under the other's. -/
theorem renamed_ok {K : Nat} {ord : List Nat} {hp hp' : HP} (h : renamed K ord hp = some hp') {Γ : Cx} (hs : HSim Γ hp) : ∃ Δ : Cx, Δ.w = Γ.w ∧ Goes Γ Δ (nameAs K ord) ∧ HSim Δ hp' ∧ (∀ Γ0 hp0, Γ0.n ≤ K → Ev Γ0 hp0 Γ hp → Ev Γ0 hp0 Δ hp') ∧ ∀ ds, MarksOk Γ hp ds → MarksOk Δ hp' ds := by
  unfold renamed at h
  cases hb : (Nat.ble K hp.length && noDups ord && ord.all (fun i => Nat.ble K i && Nat.blt i hp.length))
  · rw [hb] at h; cases h
  rw [hb] at h
  simp only [cond_true] at h
  simp only [Bool.and_eq_true, List.all_eq_true] at hb
  obtain ⟨⟨hK0, hd⟩, hall⟩ := hb
  have hK : K ≤ hp.length := Nat.le_of_ble_eq_true hK0
  have hin : ∀ i, i ∈ ord → K ≤ i ∧ i < hp.length := fun i hi => by
    have := hall i hi
    refine ⟨Nat.le_of_ble_eq_true this.1, ?_⟩
    have h2 := this.2
    unfold Nat.blt at h2
    exact Nat.le_of_ble_eq_true h2
  have hlen := renH_length h
  rw [List.length_append, List.length_take, picks_length, Nat.min_eq_left hK] at hlen
  let was : Nat → Nat := fun i => if i < K then i else ord.getD (i - K) 0
  let Δ : Cx := { w := Γ.w, n := hp'.length, β := fun i => Γ.β (was i), Fz := Γ.Fz, lc := Γ.lc, s0 := Γ.s0 }
  have hβ : ∀ i, Δ.β i = Γ.β (was i) := fun _ => rfl
  have wlt : ∀ i, i < K → was i = i := fun i hi => if_pos hi
  have wge : ∀ i j, K ≤ i → ord[i - K]? = some j → was i = j := fun i j hi hj => by
    show (if i < K then i else ord.getD (i - K) 0) = j
    rw [if_neg (by omega), List.getD_eq_getElem?_getD, hj]
    rfl
  have hn := hs.len
  have g : Goes Γ Δ (nameAs K ord) := by
    refine ⟨rfl, fun _ h => h, rfl, fun i j hi hj => ?_⟩
    unfold nameAs at hj
    cases hlt : Nat.blt i K
    · rw [hlt] at hj
      obtain ⟨h1, h2⟩ := placeIn_some hj
      have h3 := (List.getElem?_eq_some_iff.1 h2).1
      refine ⟨by show j < hp'.length; omega, ?_⟩
      rw [hβ, wge j i h1 h2]
    · rw [hlt] at hj
      cases hj
      have hik : i < K := by unfold Nat.blt at hlt; exact Nat.le_of_ble_eq_true hlt
      exact ⟨by show i < hp'.length; omega, by rw [hβ, wlt i hik]⟩
  -- where a block was
  have src : ∀ i x, hp'[i]? = some (some x) → ∃ y, hp[was i]? = some (some y) ∧ ∀ p, BRel Γ p y → BRel Δ p x := by
    intro i x hx
    obtain ⟨b, h1, h2⟩ := renH_get h i _ hx
    obtain ⟨y, rfl, h3⟩ := renB_rel g h2
    refine ⟨y, ?_, h3⟩
    rw [List.getElem?_append] at h1
    split at h1
    · rename_i hi
      rw [List.length_take, Nat.min_eq_left hK] at hi
      rw [wlt i hi]
      rw [List.getElem?_take, if_pos hi] at h1
      exact h1
    · rename_i hi
      rw [List.length_take, Nat.min_eq_left hK] at hi h1
      obtain ⟨j, h4, h5⟩ := picks_get h1
      rw [wge i j (by omega) h4]
      exact h5
  have winj : ∀ i j, i < hp'.length → j < hp'.length → was i = was j → i = j := by
    intro i j hi hj e
    have ge : ∀ i, K ≤ i → i < hp'.length → ∃ q, ord[i - K]? = some q ∧ was i = q ∧ K ≤ q := fun i h1 h2 => by
      have h3 : i - K < ord.length := by omega
      have h4 : ord[i - K]? = some ord[i - K] := List.getElem?_eq_getElem h3
      exact ⟨_, h4, wge i _ h1 h4, (hin _ (List.getElem_mem h3)).1⟩
    by_cases h1 : i < K <;> by_cases h2 : j < K
    · rw [wlt i h1, wlt j h2] at e; exact e
    · obtain ⟨q, _, q2, q3⟩ := ge j (by omega) hj
      rw [wlt i h1, q2] at e
      omega
    · obtain ⟨q, _, q2, q3⟩ := ge i (by omega) hi
      rw [wlt j h2, q2] at e
      omega
    · obtain ⟨q, p1, p2, p3⟩ := ge i (by omega) hi
      obtain ⟨q', p1', p2', p3'⟩ := ge j (by omega) hj
      rw [p2, p2'] at e
      subst e
      have := noDups_inj hd p1 p1'
      omega
  refine ⟨Δ, rfl, g, ⟨rfl, fun i x hx => ?_, fun i j x y hx hy e => ?_, hs.fz, hs.gl.same g.w g.fz⟩, fun Γ0 hp0 h0 ev => ⟨⟨?_, fun i hi => ?_, ev.le.fz, ev.le.kept, ev.le.shape, ev.le.lc⟩, ev.os, ev.tape, ev.output, ev.size, ev.frame, ?_, ev.fz, ev.s0⟩, ?_⟩
  · obtain ⟨y, h1, h2⟩ := src i x hx
    obtain ⟨k1, k2, k3⟩ := hs.blk _ y h1
    exact ⟨h2 _ k1, k2, k3⟩
  · obtain ⟨x', h1, _⟩ := src i x hx
    obtain ⟨y', h2, _⟩ := src j y hy
    exact winj i j (HP.lt hx) (HP.lt hy) (hs.inj _ _ x' y' h1 h2 e)
  · show Γ0.n ≤ hp'.length
    omega
  · have : i < K := by omega
    rw [hβ, wlt i this]
    exact ev.le.β i hi
  · rintro b ⟨i, x, hx, e⟩
    obtain ⟨y, h1, _⟩ := src i x hx
    exact ev.live b ⟨was i, y, h1, e⟩
  · rintro ds ⟨q0, ks, q1, q2, q3⟩
    refine ⟨q0, ks, q1, q2, fun k hk => ?_⟩
    obtain ⟨p1, p2, p3, p4⟩ := q3 k hk
    refine ⟨p1, ?_, p3, p4⟩
    rintro ⟨i, x, hx, e⟩
    obtain ⟨y, h1, _⟩ := src i x hx
    exact p2 ⟨was i, y, h1, e⟩

/-- A state stands for what another stands for; what lay below K has its name. -/
def RenOk (K : Nat) (st st' : St) : Prop := ∀ (Γ : Cx) (a : Act), SSim Γ st a → ∃ Δ : Cx, Δ.w = Γ.w ∧ SSim Δ st' a ∧ ∀ Γ0 hp0, Γ0.n ≤ K → Ev Γ0 hp0 Γ st.hp → Ev Γ0 hp0 Δ st'.hp
theorem RenOk.refl (K : Nat) (st : St) : RenOk K st st := fun Γ a h => ⟨Γ, rfl, h, fun _ _ _ h => h⟩
theorem RenOk.of {K : Nat} {ord : List Nat} {st : St} {tm' : List AV} {hp' : HP} (h : renamed K ord st.hp = some hp') (ht : renL (nameAs K ord) st.tm = some tm') : RenOk K st ⟨tm', hp'⟩ := fun Γ a hs => by
  obtain ⟨Δ, h1, h2, h3, h4, h5⟩ := renamed_ok h hs.hp
  exact ⟨Δ, h1, ⟨renL_rel h2 ht hs.tm, h3, h5 _ hs.df⟩, h4⟩

end Go.Gi
