/- copy; a []byte taken for a []byte. -/
import Derived.Test.YtakdhioafodhcaaGreatDoorGiV
set_option linter.unusedVariables false
set_option linter.unusedSimpArgs false
namespace Go.Gi
open Go

theorem HP.set_same {hp : HP} {id : Nat} {x : Option Blk} (hx : hp[id]? = some x) : hp.set id x = hp := by
  apply List.ext_getElem?
  intro j
  rw [List.getElem?_set]
  split
  · rename_i hj
    subst hj
    rw [if_pos (List.getElem?_eq_some_iff.1 hx).1, hx]
  · rfl

/-- The first elements only. -/
def shortA (sz n : Nat) : AV → Option AV
  | .sl id off len sz' lo ex => if n ≤ len then some (.sl id off n sz' lo ex) else none
  | .fsl cs len => if n ≤ len then some (.fsl (cs.take (n * sz)) n) else none
  | .str s => if n = s.length then some (.str s) else none
  | .nils => if n = 0 then some .nils else none
  | .esl => if n = 0 then some .esl else none
  | .enn => if n = 0 then some .enn else none
  | _ => none

theorem short_rel {Γ : Cx} {sz n : Nat} {x x' : AV} {v : Value} (hv : VRel Γ x v) (h : shortA sz n x = some x') : ∃ v', VRel Γ x' v' ∧ Builtin.firstCells sz n v' = Builtin.firstCells sz n v := by
  cases x <;> simp only [shortA, reduceCtorEq] at h
  case str =>
    split at h
    · cases h; exact ⟨v, hv, rfl⟩
    · cases h
  case nils =>
    split at h
    · cases h; exact ⟨v, hv, rfl⟩
    · cases h
  case esl =>
    split at h
    · cases h; exact ⟨v, hv, rfl⟩
    · cases h
  case enn =>
    split at h
    · cases h; exact ⟨v, hv, rfl⟩
    · cases h
  case sl id off len sz' lo ex =>
    split at h
    · rename_i hn
      cases h
      simp only [VRel] at hv
      obtain ⟨hi, o, c, e, m, rfl, ho, k1, k2, k3, k4, k5⟩ := hv
      refine ⟨.slice (some ⟨(Γ.β id).1, o, none⟩) n c, ?_, rfl⟩
      simp only [VRel]
      exact ⟨hi, o, c, e, m, rfl, ho, by omega, k2, k3, k4, k5⟩
    · cases h
  case fsl cs len =>
    split at h
    · rename_i hn
      cases h
      simp only [VRel] at hv
      rcases hv with ⟨rfl | ⟨a0, rfl⟩, rfl, rfl⟩ | ⟨b, o, c, rfl, k1, k2, k3⟩
      · refine ⟨.slice none 0 0, ?_, rfl⟩
        have : n = 0 := by omega
        subst this
        simp [VRel, NilS]
      · refine ⟨.slice (some a0) 0 0, ?_, ?_⟩
        · have : n = 0 := by omega
          subst this
          simp [VRel, NilS]
        · have : n = 0 := by omega
          subst this
          rfl
      · refine ⟨.slice (some ⟨b, o, none⟩) n c, ?_, rfl⟩
        simp only [VRel]
        refine .inr ⟨b, o, c, rfl, by omega, ?_, k3.take _⟩
        rcases k2 with rfl | k2
        · exact .inl (by simp)
        · exact .inr k2
    · cases h

/-- copy(d, x). -/
def copyA (hp : HP) (sz : Nat) (d x : AV) : Option (AV × HP) :=
  match srcA hp sz x with
  | some (_, m) => match d with
    | .nils | .esl | .enn => some (.int .i64 0, hp)
    | .sl id off len sz' lo ex => match shortA sz (min m len) x with
      | some x' => match srcA hp sz x' with
        | some (new, k) => match hp[id]? with
          | some (some (.row e cs)) => if (sz' = sz ∧ off + len * sz ≤ cs.length) ∧ k = min m len then some (.int .i64 (min m len : Nat), hp.set id (some (.row e (over cs off new)))) else none
          | _ => none
        | none => none
      | none => none
    | _ => none
  | none => none

theorem nat_min (a b : Nat) : Nat.min a b = min a b := rfl
theorem copy_ok {P : Program} {Γ : Cx} {hp hp' : HP} (h : HSim Γ hp) {t tx ty e : TypeId} {sz bytes : Nat} (ht : elemP P t = some (e, sz, bytes)) (hk : seqP P tx = true) {d x r : AV} {v u : Value} (hv : VRel Γ d v) (hu : VRel Γ x u)
    (hr : copyA hp sz d x = some (r, hp')) : OpOk P Γ hp (Builtin.copy_ #[t, tx] ty #[v, u]) r hp' := by
  obtain ⟨hut, i, z, hi, hz, hzs, rfl, rfl⟩ := elemP_some ht
  unfold copyA at hr
  split at hr
  · rename_i _ as m hsrc
    obtain ⟨news, hS, hN, hO⟩ := srcA_src h (seqP_some hk) hu hsrc
    have zero : ∀ (base : Option Addr) (c : Nat), v = .slice base 0 c → (Builtin.firstCells i.size 0 u).run P Γ.w = .ok #[] Γ.w → OpOk P Γ hp (Builtin.copy_ #[t, tx] ty #[v, u]) (.int .i64 0) hp := by
      intro base c hb hf
      subst hb
      refine OpOk.same h (v := .int .i64 0) ?_ (by simp [VRel])
      cases base <;> simp [Builtin.copy_, run_underlying hut, sizeOf, typeInfo, hi, hS.len, nat_min, hf, storeCells, goInt]
    have f0 : (Builtin.firstCells i.size 0 u).run P Γ.w = .ok #[] Γ.w := by
      rcases hS.kind with _ | _
      all_goals
        cases u <;> try (have := hS.cells; simp [Builtin.firstCells, stuck, Sem.run] at this; done)
        case slice base len c =>
          cases base with
          | none => rfl
          | some a => simp [Builtin.firstCells, loadCells, loadCellsFrom]
        case string s => simp [Builtin.firstCells]
    split at hr
    · cases hr
      simp only [VRel] at hv
      exact zero none 0 hv f0
    · cases hr
      simp only [VRel] at hv
      rcases hv with hv | ⟨b, hv⟩
      · exact zero none 0 hv f0
      · exact zero _ 0 hv f0
    · cases hr
      simp only [VRel] at hv
      obtain ⟨a0, c, hv, _⟩ := hv
      exact zero _ c hv f0
    · rename_i id off len sz' lo ex
      split at hr
      · rename_i x' hx'
        split at hr
        · rename_i new k hsrc'
          split at hr
          · rename_i e' cs hx
            split at hr
            · rename_i hc
              obtain ⟨⟨rfl, hl⟩, rfl⟩ := hc
              cases hr
              obtain ⟨u', hu', hfc⟩ := short_rel hu hx'
              obtain ⟨news', hS', hN', hO'⟩ := srcA_src h (seqP_some hk) hu' hsrc'
              simp only [VRel] at hv
              obtain ⟨hi0, o, c, e2, mm, rfl, ho, k1, k2, k3, k4, k5⟩ := hv
              have hnl : new.length = min m len * i.size := by rw [hN'.length, hS'.newsLen]
              have hcells := hS'.cells
              rw [hfc] at hcells
              by_cases h0 : min m len = 0
              · have hnew : new = [] := List.eq_nil_of_length_eq_zero (by rw [hnl, h0, Nat.zero_mul])
                have hnews : news' = [] := List.eq_nil_of_length_eq_zero (by rw [← hN'.length, hnew]; rfl)
                subst hnew hnews
                rw [over_nil]
                have hset : hp.set id (some (.row e' cs)) = hp := HP.set_same hx
                rw [hset]
                refine OpOk.same h (v := .int .i64 (min m len : Nat)) ?_ (by simp [VRel])
                rw [h0] at hcells
                simp [Builtin.copy_, run_underlying hut, sizeOf, typeInfo, hi, hS.len, nat_min, h0, hcells, storeCells, goInt]
              · have hlen0 : len ≠ 0 := by omega
                have ho' : o = (Γ.β id).2 + off := by
                  rcases ho with ho | ho
                  · omega
                  · exact ho
                have hle : min m len * i.size ≤ len * i.size := Nat.mul_le_mul_right _ (Nat.min_le_right _ _)
                obtain ⟨Δ, r1, r2, r3, r4, r5, r6⟩ := write_row (P := P) (off := off) h hx hN' hO' (by omega) (.inl (by omega))
                refine ⟨.int .i64 (min m len : Nat), Δ, ?_, by simp [VRel], r2, r3⟩
                rw [← ho'] at r1
                simp [Builtin.copy_, run_underlying hut, sizeOf, typeInfo, hi, hS.len, nat_min, hcells, r1, goInt]
            · cases hr
          · cases hr
        · cases hr
      · cases hr
    · cases hr
  · cases hr

/-- A []byte of ours, taken for a []byte: the model bars only what lies behind its block. -/
def convA (hp : HP) (x : AV) : Option AV :=
  match x with
  | .sl id _ _ _ _ _ => match hp[id]? with
    | some (some (.row _ _)) => some x
    | _ => none
  | _ => none

theorem conv_ok {P : Program} {Γ : Cx} {hp : HP} (h : HSim Γ hp) {t e : TypeId} (ht : P.underlying t = some (.slice e)) (he : P.underlying e = some (.int .u8)) {x r : AV} {v : Value} (hv : VRel Γ x v) (hr : convA hp x = some r) : OpOk P Γ hp (convert t t v) r hp := by
  unfold convA at hr
  split at hr
  · rename_i id off len sz lo ex
    split at hr
    · rename_i e1 cs hx
      cases hr
      have hv' := hv
      simp only [VRel] at hv
      obtain ⟨hi0, o, c, e2, mm, rfl, ho, k1, k2, k3, k4, k5⟩ := hv
      obtain ⟨hb, hf, hlt⟩ := h.blk id _ hx
      simp only [BRel] at hb
      obtain ⟨⟨cc, fr, hc, hfr0, hfr⟩, hcs⟩ := hb
      obtain ⟨flo, fhi⟩ := fr
      simp only at hfr0 hfr
      let fr' : Nat × Nat := if flo == fhi then (cc.size, cc.size + 1) else (min flo cc.size, max fhi (cc.size + 1))
      have hw : (Γ.w.freeze ⟨(Γ.β id).1, cc.size, none⟩ 1) = setB Γ.w (Γ.β id).1 (.cells cc e1 fr') := by
        have he1 : ∀ e', Γ.w.heap[(Γ.β id).1]? = some (.cells cc e' (flo, fhi)) → True := fun _ _ => trivial
        simp only [World.freeze, setB, Nat.one_ne_zero, if_false]
        congr 1
        apply Array.ext_getElem?
        intro j
        rw [Array.getElem?_modify, Array.getElem?_setIfInBounds]
        split
        · rename_i hj
          subst hj
          rw [hc]
          simp only [Option.map_some, hlt, if_true]
          rfl
        · rfl
      have hsh : ∀ s, Γ.w.shape? (Γ.β id).1 = some s → (setB Γ.w (Γ.β id).1 (.cells cc e1 fr')).shape? (Γ.β id).1 = some s := by
        intro s hs
        simp only [World.shape?, hc] at hs
        simp only [World.shape?, setB_eq _ _ hlt]
        exact hs
      have le : Le Γ (Γ.setB (Γ.β id).1 (.cells cc e1 fr')) := Le.setB hf hsh
      have hwr := h.write hx (.cells cc e1 fr') (.row e1 cs) hsh (by
        simp only [BRel]
        refine ⟨⟨cc, fr', setB_eq _ _ hlt, ?_, ?_⟩, CellsAt.of fun i a ha => ?_⟩
        · simp only [fr']
          split
          · exact Nat.le_succ _
          · simp only; omega
        · intro j hj
          simp only [fr']
          split
          · simp only; omega
          · rename_i hne
            have hne' : flo ≠ fhi := by simpa using hne
            have : cc.size ≤ flo := by
              rcases Nat.lt_or_ge flo cc.size with hlt' | hge
              · exact absurd ⟨Nat.le_refl _, by omega⟩ (hfr flo hlt')
              · exact hge
            simp only
            omega
        · obtain ⟨u, q1, q2, q3⟩ := hcs.get i a ha
          refine ⟨u, ?_, q2, q3.le le⟩
          simp only [World.cell?, hc] at q1
          simp only [World.cell?, Cx.setB, setB_eq _ _ hlt]
          exact q1)
      have hset : hp.set id (some (.row e1 cs)) = hp := HP.set_same hx
      rw [hset] at hwr
      refine ⟨.slice (some ⟨(Γ.β id).1, o, none⟩) len c, _, ?_, hv'.le le, hwr.1, hwr.2⟩
      have hshape : Γ.w.shape? (Γ.β id).1 = some (e1, cc.size) := by simp [World.shape?, hc]
      simp only [convert, Sem.run_bind, run_underlying ht, Result.andThen_ok, beq_self_eq_true, run_underlying he]
      show ((markStringish ⟨(Γ.β id).1, o, none⟩).run P Γ.w).andThen _ = _
      have hm : (markStringish ⟨(Γ.β id).1, o, none⟩).run P Γ.w = .ok () (Γ.w.freeze ⟨(Γ.β id).1, cc.size, none⟩ 1) := by
        simp [markStringish, shape, Sem.run, hshape, freeze, bind, Sem.bind, pure]
      rw [hm]
      simp only [Result.andThen_ok, Sem.run_pure, hw]
      rfl
    · cases hr
  · cases hr

end Go.Gi
