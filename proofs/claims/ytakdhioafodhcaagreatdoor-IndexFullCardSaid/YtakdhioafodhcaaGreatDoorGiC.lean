/- The operations on memory: what they do to the trees and the abstract memory, and that they do it in the model. -/
import Derived.Test.YtakdhioafodhcaaGreatDoorGiB
import Derived.ChangeKeysEq
set_option linter.unusedVariables false
set_option linter.unusedSimpArgs false
namespace Go.Gi
open Go

/-- A value that lies in one cell. -/
def oneA : AV → Bool
  | .agg _ | .tup _ => false
  | _ => true
/-- A value's cells. -/
def cellsA : AV → List AV
  | .agg cs => cs
  | v => [v]

theorem one_of {Γ : Cx} {a : AV} {v : Value} (h : VRel Γ a v) (h1 : oneA a = true) : one v = true := by
  cases a <;> simp [oneA] at h1 <;> simp only [VRel] at h
  case ptr => obtain ⟨_, rfl⟩ := h; rfl
  case fptr => obtain ⟨_, _, rfl, _⟩ := h; rfl
  case sl => obtain ⟨_, _, _, _, _, rfl, _⟩ := h; rfl
  case fsl => rcases h with ⟨rfl | ⟨_, rfl⟩, _⟩ | ⟨_, _, _, rfl, _⟩ <;> rfl
  case esl => rcases h with rfl | ⟨_, rfl⟩ <;> rfl
  case enn => obtain ⟨_, _, rfl, _⟩ := h; rfl
  case map => obtain ⟨_, rfl⟩ := h; rfl
  case func => obtain ⟨_, rfl, _⟩ := h; rfl
  case iface => obtain ⟨_, rfl, _⟩ := h; rfl
  case yld => obtain ⟨_, rfl⟩ := h; rfl
  case unk => obtain ⟨_, _, rfl⟩ := h; rfl
  case bound => obtain ⟨_, rfl, _⟩ := h; rfl
  all_goals (subst h; rfl)

/-- A value and its cells. -/
theorem cells_rel {Γ : Cx} {a : AV} {v : Value} (h : VRel Γ a v) (ht : ∀ l, a ≠ .tup l) : VRels Γ (cellsA a) v.cells.toList ∧ ∀ u ∈ v.cells.toList, one u = true := by
  by_cases h1 : oneA a = true
  · have h1' := one_of h h1
    rw [one_oneCell h1']
    have : cellsA a = [a] := by cases a <;> simp_all [oneA, cellsA]
    rw [this]
    exact ⟨by simp only [VRels]; exact ⟨v, [], rfl, h, rfl⟩, by simpa using h1'⟩
  · cases a with
    | agg cs =>
      simp only [VRel] at h
      obtain ⟨vs, rfl, h2, h3⟩ := h
      exact ⟨by simpa [cellsA, Value.cells] using h2, by simpa [Value.cells] using h3⟩
    | tup l => exact absurd rfl (ht l)
    | _ => simp [oneA] at h1

/-- An operation that yields a value. -/
def OpOk (P : Program) (Γ : Cx) (hp : HP) (m : Sem Value) (r : AV) (hp' : HP) : Prop :=
  ∃ v Δ, m.run P Γ.w = .ok v Δ.w ∧ VRel Δ r v ∧ HSim Δ hp' ∧ Ev Γ hp Δ hp'
/-- An operation that yields nothing. -/
def OpDone (P : Program) (Γ : Cx) (hp : HP) (m : Sem Unit) (hp' : HP) : Prop :=
  ∃ Δ, m.run P Γ.w = .ok () Δ.w ∧ HSim Δ hp' ∧ Ev Γ hp Δ hp'

theorem OpOk.same {P : Program} {Γ : Cx} {hp : HP} {m : Sem Value} {r : AV} {v : Value} (h : HSim Γ hp) (hm : m.run P Γ.w = .ok v Γ.w) (hr : VRel Γ r v) : OpOk P Γ hp m r hp :=
  ⟨v, Γ, hm, hr, h, Ev.refl _ _⟩

/-! ### What a type's values are made of -/
/-- Of a struct's or an array's type how many cells, of another nothing. -/
def shapeP (P : Program) (t : TypeId) : Option (Option Nat) :=
  match P.info? t, P.underlying t with
  | some i, some (.struct _) | some i, some (.array _ _) => some (some i.size)
  | some _, some _ => some none
  | _, _ => none

theorem shapeP_agg {P : Program} {t : TypeId} {n : Nat} (h : shapeP P t = some (some n)) (w : World) : (isAgg t).run P w = .ok true w ∧ (sizeOf t).run P w = .ok n w := by
  unfold shapeP at h
  cases hi : P.info? t with
  | none => simp [hi] at h
  | some i =>
    cases hu : P.underlying t with
    | none => simp [hi, hu] at h
    | some d => cases d <;> simp [hi, hu] at h <;> subst h <;> exact ⟨by simp [isAgg, run_underlying hu], by simp [sizeOf, typeInfo, hi]⟩

theorem shapeP_one {P : Program} {t : TypeId} (h : shapeP P t = some none) (w : World) : (isAgg t).run P w = .ok false w := by
  unfold shapeP at h
  cases hi : P.info? t with
  | none => simp [hi] at h
  | some i =>
    cases hu : P.underlying t with
    | none => simp [hi, hu] at h
    | some d => cases d <;> simp [hi, hu] at h <;> simp [isAgg, run_underlying hu]

def sizeP (P : Program) (t : TypeId) : Option Nat := (P.info? t).map (·.size)
theorem sizeP_run {P : Program} {t : TypeId} {n : Nat} (h : sizeP P t = some n) (w : World) : (sizeOf t).run P w = .ok n w := by
  unfold sizeP at h
  cases hi : P.info? t with
  | none => simp [hi] at h
  | some i => simp [hi] at h; simp [sizeOf, typeInfo, hi, h]

/-! ### Loads and stores -/
def pickA (sh : Option Nat) (cs : List AV) (off : Nat) : Option AV :=
  match sh with
  | none => match cs[off]? with
    | some a => if oneA a then some a else none
    | none => none
  | some n => if off + n ≤ cs.length then some (.agg ((cs.drop off).take n)) else none

/-- What a pointer leads to. -/
def rowA (hp : HP) : AV → Option (List AV × Nat)
  | .ptr id off => match hp[id]? with
    | some (some (.row _ cs)) => some (cs, off)
    | _ => none
  | .fptr cs off => some (cs, off)
  | _ => none

def loadA (hp : HP) (sh : Option Nat) (p : AV) : Option AV :=
  match rowA hp p with
  | some (cs, off) => pickA sh cs off
  | none => none

theorem pickA_run {P : Program} {Γ : Cx} {t : TypeId} {sh : Option Nat} (hsh : shapeP P t = some sh) {cs : List AV} {b o off : Nat} (hc : CellsAt Γ cs b o) {r : AV} (h : pickA sh cs off = some r) :
    ∃ v, (loadVar t ⟨b, o + off, none⟩).run P Γ.w = .ok v Γ.w ∧ VRel Γ r v := by
  cases sh with
  | none =>
    simp only [pickA] at h
    cases ha : cs[off]? with
    | none => simp [ha] at h
    | some a =>
      rw [ha] at h
      simp only at h
      split at h
      · cases h
        obtain ⟨v, h1, h2, h3⟩ := hc.get off _ ha
        exact ⟨v, by simp [loadVar, shapeP_one hsh, h1], h3⟩
      · cases h
  | some n =>
    simp only [pickA] at h
    split at h
    · rename_i hle
      cases h
      have hc' := (hc.drop off).take n
      obtain ⟨vs, h1, h2, h3, h4⟩ := hc'.list
      have hn : vs.length = n := by rw [h2]; simp; omega
      refine ⟨.agg ⟨vs⟩, ?_, by simp only [VRel]; exact ⟨vs, rfl, h1, h3⟩⟩
      have hl := run_loadCells_list (P := P) (w := Γ.w) ⟨b, o + off, none⟩ vs (fun j v hv => by rw [add_at]; exact h4 j v hv)
      rw [hn] at hl
      simp only [loadVar, Sem.run_bind, (shapeP_agg hsh Γ.w).1, (shapeP_agg hsh Γ.w).2, Result.andThen_ok, if_true, hl]
      rfl
    · cases h

theorem rowA_rel {Γ : Cx} {hp : HP} (h : HSim Γ hp) {p : AV} {v : Value} (hv : VRel Γ p v) {cs : List AV} {off : Nat} (hr : rowA hp p = some (cs, off)) : ∃ b o, v = .pointer (some ⟨b, o + off, none⟩) ∧ CellsAt Γ cs b o := by
  cases p <;> simp only [rowA] at hr <;> try contradiction
  case ptr id off' =>
    split at hr
    · rename_i e cs' hx
      cases hr
      simp only [VRel] at hv
      obtain ⟨hi, rfl⟩ := hv
      have := (h.blk id _ hx).1
      simp only [BRel] at this
      exact ⟨_, _, rfl, this.2⟩
    · cases hr
  case fptr =>
    cases hr
    simp only [VRel] at hv
    obtain ⟨b, o, rfl, _, hc⟩ := hv
    exact ⟨b, o, rfl, hc⟩

theorem load_ok {P : Program} {Γ : Cx} {hp : HP} (h : HSim Γ hp) {t : TypeId} {sh : Option Nat} (hsh : shapeP P t = some sh) {p r : AV} {v : Value} (hv : VRel Γ p v) (hl : loadA hp sh p = some r) :
    OpOk P Γ hp (Instr.loadAt t v) r hp := by
  simp only [loadA] at hl
  split at hl
  · rename_i cs off hr
    obtain ⟨b, o, rfl, hc⟩ := rowA_rel h hv hr
    obtain ⟨u, h1, h2⟩ := pickA_run (P := P) hsh hc hl
    exact OpOk.same h (by simp [Instr.loadAt, Instr.sureAddr, h1]) h2
  · cases hl

/-- The known cells of a row lie in its block. -/
theorem row_fits {Γ : Cx} {cs : List AV} {b o : Nat} (hcs : CellsAt Γ cs b o) {c : List Value} {e : TypeId} {fr : Nat × Nat} (hc : Γ.w.heap[b]? = some (.cells ⟨c⟩ e fr)) : o + cs.length ≤ c.length ∨ cs = [] := by
  rcases cs with _ | ⟨a, cs'⟩
  · exact .inr rfl
  · left
    obtain ⟨v, k1, _⟩ := hcs.get ((a :: cs').length - 1) ((a :: cs').getLast (by simp)) (by rw [List.getLast_eq_getElem]; simp)
    simp only [World.cell?, hc] at k1
    have k2 : c[o + ((a :: cs').length - 1)]? = some v := by simpa using k1
    have := (List.getElem?_eq_some_iff.1 k2).1
    simp at this ⊢; omega

/-- Cells of a row of ours are written, within it or behind its end (where its block has room). -/
theorem write_row {P : Program} {Γ : Cx} {hp : HP} (h : HSim Γ hp) {id off : Nat} {e : TypeId} {cs as : List AV} {vs : List Value} (hx : hp[id]? = some (some (.row e cs))) (hvs : VRels Γ as vs) (h1 : ∀ u ∈ vs, one u = true)
    (hl : off ≤ cs.length) (hroom : off + as.length ≤ cs.length ∨ ∃ e' m, Γ.w.shape? (Γ.β id).1 = some (e', m) ∧ (Γ.β id).2 + off + as.length ≤ m) :
    ∃ Δ, (storeCells ⟨(Γ.β id).1, (Γ.β id).2 + off, none⟩ vs).run P Γ.w = .ok () Δ.w ∧ HSim Δ (hp.set id (some (.row e (over cs off as)))) ∧ Ev Γ hp Δ (hp.set id (some (.row e (over cs off as)))) ∧ Δ.β = Γ.β ∧ Δ.n = Γ.n ∧ Δ.Fz = Γ.Fz := by
  obtain ⟨hb, hf, hlt⟩ := h.blk id _ hx
  simp only [BRel] at hb
  obtain ⟨⟨c, fr, hc, hfr0, hfr⟩, hcs⟩ := hb
  obtain ⟨c⟩ := c
  have hlen := hvs.length
  have hend := row_fits hcs hc
  rcases Nat.eq_zero_or_pos as.length with h0 | h0
  · have ha : as = [] := List.eq_nil_of_length_eq_zero h0
    subst ha
    have hv0 : vs = [] := List.eq_nil_of_length_eq_zero (by rw [← hlen]; rfl)
    subst hv0
    have hs : hp.set id (some (.row e cs)) = hp := by
      apply List.ext_getElem?
      intro j
      rw [List.getElem?_set]
      split
      · rename_i ej; subst ej; rw [if_pos (HP.lt hx), hx]
      · rfl
    refine ⟨Γ, rfl, ?_, ?_, rfl, rfl, rfl⟩
    · rw [over_nil, hs]; exact h
    · rw [over_nil, hs]; exact Ev.refl _ _
  · have hle : (Γ.β id).2 + off + as.length ≤ c.length := by
      rcases hroom with h' | ⟨e', m, h', h''⟩
      · rcases hend with h'' | h''
        · omega
        · subst h''; simp only [List.length_nil] at h'; omega
      · simp only [World.shape?, hc, Option.some.injEq, Prod.mk.injEq, List.size_toArray] at h'
        omega
    have hst := run_storeCells (P := P) (Γ.β id).1 ((Γ.β id).2 + off) e fr vs 0 Γ.w c hc (by simpa using hfr) (by rw [← hlen]; omega) h1
    have hsh : ∀ s, Γ.w.shape? (Γ.β id).1 = some s → (setB Γ.w (Γ.β id).1 (.cells ⟨over c ((Γ.β id).2 + off + 0) vs⟩ e fr)).shape? (Γ.β id).1 = some s := by
      intro s hs
      simp only [World.shape?, hc] at hs
      simp only [World.shape?, setB_eq _ _ hlt]
      rw [← hs]
      simp only [List.size_toArray]
      rw [over_length _ _ _ (by rw [← hlen]; omega)]
    have hw := h.write hx (.cells ⟨over c ((Γ.β id).2 + off + 0) vs⟩ e fr) (.row e (over cs off as)) hsh (by
      simp only [BRel]
      refine ⟨⟨_, fr, setB_eq _ _ hlt, hfr0, ?_⟩, ?_⟩
      · intro j hj
        simp only [List.size_toArray] at hj
        rw [over_length _ _ _ (by rw [← hlen]; omega)] at hj
        exact hfr j (by simpa using hj)
      · have le : Le Γ (Γ.setB (Γ.β id).1 (.cells ⟨over c ((Γ.β id).2 + off + 0) vs⟩ e fr)) := Le.setB hf hsh
        refine CellsAt.of fun i a ha => ?_
        rw [over_get _ _ _ hl] at ha
        have hcell : ∀ j, (setB Γ.w (Γ.β id).1 (.cells ⟨over c ((Γ.β id).2 + off + 0) vs⟩ e fr)).cell? ⟨(Γ.β id).1, j, none⟩ = (over c ((Γ.β id).2 + off + 0) vs)[j]? := by
          intro j; simp [World.cell?, setB_eq _ _ hlt]
        have hold : ∀ j, Γ.w.cell? ⟨(Γ.β id).1, j, none⟩ = c[j]? := by intro j; simp [World.cell?, hc]
        simp only [Cx.setB, hcell]
        rw [over_get _ _ _ (by rw [← hlen] at *; omega)]
        split at ha
        · rename_i hin
          rw [if_pos (by rw [← hlen]; omega)]
          have hg := hvs.get (i - off)
          have hlt' : i - off < vs.length := by rw [← hlen]; omega
          rw [show (Γ.β id).2 + i - ((Γ.β id).2 + off + 0) = i - off by omega]
          rw [List.getElem?_eq_getElem hlt']
          refine ⟨_, rfl, h1 _ (List.getElem_mem _), ?_⟩
          simp only [List.getD, ha, List.getElem?_eq_getElem hlt', Option.getD_some] at hg
          exact hg.le le
        · rename_i hin
          rw [if_neg (by rw [← hlen]; omega)]
          obtain ⟨v, k1, k2, k3⟩ := hcs.get i a ha
          rw [hold] at k1
          exact ⟨v, k1, k2, k3.le le⟩)
    exact ⟨_, hst, hw.1, hw.2, rfl, rfl, rfl⟩

def storeA (hp : HP) (n : Nat) (p v : AV) : Option HP :=
  match p with
  | .ptr id off => match hp[id]? with
    | some (some (.row e cs)) => match v with
      | .tup _ => none
      | v => if (cellsA v).length = n ∧ off + n ≤ cs.length then some (hp.set id (some (.row e (over cs off (cellsA v))))) else none
    | _ => none
  | _ => none

theorem store_ok {P : Program} {Γ : Cx} {hp hp' : HP} (h : HSim Γ hp) {t : TypeId} {n : Nat} (hsz : sizeP P t = some n) {p x : AV} {v u : Value} (hv : VRel Γ p v) (hu : VRel Γ x u) (hs : storeA hp n p x = some hp') :
    OpDone P Γ hp (Instr.storeAt t v u) hp' := by
  cases p <;> simp only [storeA] at hs <;> try contradiction
  case ptr id off =>
    split at hs
    · rename_i e cs hx
      have ht : ∀ l, x ≠ .tup l := by rintro l rfl; simp at hs
      have hs' : (if (cellsA x).length = n ∧ off + n ≤ cs.length then some (hp.set id (some (.row e (over cs off (cellsA x))))) else none) = some hp' := by
        cases x <;> first | exact hs | exact absurd rfl (ht _)
      split at hs'
      · rename_i hn
        cases hs'
        obtain ⟨k1, k2⟩ := cells_rel hu ht
        simp only [VRel] at hv
        obtain ⟨hi, rfl⟩ := hv
        obtain ⟨Δ, r1, r2, r3, _⟩ := write_row (P := P) (off := off) h hx k1 k2 (by omega) (.inl (by omega))
        have hl := k1.length
        refine ⟨Δ, ?_, r2, r3⟩
        simp only [Instr.storeAt, Instr.sureAddr, Sem.run_bind, Sem.run_pure, Result.andThen_ok, storeVar, sizeP_run hsz]
        rw [if_neg (by simp only [Array.length_toList] at hl; omega)]
        simpa using r1
      · cases hs'
    · cases hs

/-! ### New rows -/
theorem newRow_ok {P : Program} {Γ : Cx} {hp : HP} (h : HSim Γ hp) (e : TypeId) {as : List AV} {vs : List Value} (hvs : VRels Γ as vs) (h1 : ∀ u ∈ vs, one u = true) (more : List Value) :
    ∃ Δ, (newRow e ⟨vs ++ more⟩).run P Γ.w = .ok ⟨Γ.w.heap.size, 0, none⟩ Δ.w ∧ HSim Δ (hp ++ [some (.row e as)]) ∧ Ev Γ hp Δ (hp ++ [some (.row e as)]) ∧ Γ.n < Δ.n ∧ Δ.β hp.length = (Γ.w.heap.size, 0) ∧
      Δ.w.shape? Γ.w.heap.size = some (e, (vs ++ more).length) := by
  have le : Le Γ ((Γ.alloc (.cells ⟨vs ++ more⟩ e (0, 0))).know (Γ.w.heap.size, 0)) := (Le.alloc h.fz _).trans (Le.know _ _)
  have hs := h.new (.cells ⟨vs ++ more⟩ e (0, 0)) (.row e as) (by
    simp only [BRel]
    refine ⟨⟨_, (0, 0), alloc_new _ _, Nat.le_refl _, fun o _ => by simp⟩, CellsAt.of fun i a ha => ?_⟩
    have hlt : i < vs.length := by rw [← hvs.length]; exact (List.getElem?_eq_some_iff.1 ha).1
    have hg := hvs.get i
    simp only [List.getD, ha, List.getElem?_eq_getElem hlt, Option.getD_some] at hg
    refine ⟨vs[i], ?_, h1 _ (List.getElem_mem _), hg.le le⟩
    simp only [World.cell?, Cx.know, Cx.alloc, alloc_new]
    simp [List.getElem?_append, hlt])
  refine ⟨_, ?_, hs.1, hs.2, by simp [Cx.know, Cx.alloc], by simp [Cx.know, Cx.alloc, h.len], ?_⟩
  · simp only [newRow, Sem.run_bind, run_newObj, Result.andThen_ok, Sem.run_pure]
    rfl
  · simp only [World.shape?, Cx.know, Cx.alloc, alloc_new]
    simp

/-- The same, where nobody will write it. -/
theorem newRowFz_ok {P : Program} {Γ : Cx} {hp : HP} (h : HSim Γ hp) (e : TypeId) {as : List AV} {vs : List Value} (hvs : VRels Γ as vs) (h1 : ∀ u ∈ vs, one u = true) :
    ∃ Δ, (newRow e ⟨vs⟩).run P Γ.w = .ok ⟨Γ.w.heap.size, 0, none⟩ Δ.w ∧ HSim Δ hp ∧ Ev Γ hp Δ hp ∧ Δ.Fz Γ.w.heap.size ∧ CellsAt Δ as Γ.w.heap.size 0 := by
  have le : Le Γ ((Γ.alloc (.cells ⟨vs⟩ e (0, 0))).shut Γ.w.heap.size) := (Le.alloc h.fz _).trans (Le.shut _ _)
  have hs := h.newFz (.cells ⟨vs⟩ e (0, 0))
  refine ⟨_, ?_, hs.1, hs.2, .inr rfl, CellsAt.of fun i a ha => ?_⟩
  · simp only [newRow, Sem.run_bind, run_newObj, Result.andThen_ok, Sem.run_pure]
    rfl
  · have hlt : i < vs.length := by rw [← hvs.length]; exact (List.getElem?_eq_some_iff.1 ha).1
    have hg := hvs.get i
    simp only [List.getD, ha, List.getElem?_eq_getElem hlt, Option.getD_some] at hg
    refine ⟨vs[i], ?_, h1 _ (List.getElem_mem _), hg.le le⟩
    simp only [World.cell?, Cx.shut, Cx.alloc, alloc_new]
    simp [hlt]

def boxA (hp : HP) (e : TypeId) (x : AV) : Option (AV × HP) :=
  match x with
  | .tup _ => none
  | x => some (.ptr hp.length 0, hp ++ [some (.row e (cellsA x))])

theorem box_ok {P : Program} {Γ : Cx} {hp hp' : HP} (h : HSim Γ hp) {e : TypeId} {x r : AV} {u : Value} (hu : VRel Γ x u) (hb : boxA hp e x = some (r, hp')) : OpOk P Γ hp (Instr.box e u) r hp' := by
  have ht : ∀ l, x ≠ .tup l := by rintro l rfl; simp [boxA] at hb
  have hb' : r = .ptr hp.length 0 ∧ hp' = hp ++ [some (.row e (cellsA x))] := by
    cases x <;> first | (simp [boxA] at hb; exact ⟨hb.1.symm, hb.2.symm⟩) | exact absurd rfl (ht _)
  obtain ⟨rfl, rfl⟩ := hb'
  obtain ⟨k1, k2⟩ := cells_rel hu ht
  obtain ⟨Δ, r1, r2, r3, r4, r5, _⟩ := newRow_ok (P := P) h e k1 k2 []
  refine ⟨.pointer (some ⟨Γ.w.heap.size, 0, none⟩), Δ, ?_, ?_, r2, r3⟩
  · have : (⟨u.cells.toList ++ []⟩ : Array Value) = u.cells := by simp
    rw [this] at r1
    simp [Instr.box, newVar, r1]
  · simp only [VRel]
    refine ⟨?_, by rw [r5]⟩
    have := r2.len
    simp at this; omega

/-! ### Addresses -/
def faddrA (off : Nat) : AV → Option AV
  | .ptr id o => some (.ptr id (o + off))
  | .fptr cs o => some (.fptr cs (o + off))
  | _ => none

/-- A struct's field: where it begins, its size (not none), and how it is read. -/
def fieldP (P : Program) (s : TypeId) (f : Nat) : Option (Nat × Option Nat) :=
  match P.underlying s with
  | some (.struct fs) => match fs[f]? with
    | some fd => match sizeP P fd.type, shapeP P fd.type with
      | some (_ + 1), some sh => some (fd.offset, sh)
      | _, _ => none
    | none => none
  | _ => none

theorem faddr_ok {P : Program} {Γ : Cx} {hp : HP} (h : HSim Γ hp) {s : TypeId} {f off : Nat} {sh : Option Nat} (hf : fieldP P s f = some (off, sh)) {p r : AV} {v : Value} (hv : VRel Γ p v) (hr : faddrA off p = some r) :
    OpOk P Γ hp (Instr.fieldAt s v f) r hp := by
  unfold fieldP at hf
  split at hf
  · rename_i fs hu
    split at hf
    · rename_i fd hfd
      split at hf
      · rename_i n sh' hsz hsh
        simp only [Option.some.injEq, Prod.mk.injEq] at hf
        obtain ⟨rfl, rfl⟩ := hf
        have key : ∀ a : Addr, v = .pointer (some a) → (Instr.fieldAt s v f).run P Γ.w = .ok (.pointer (some (a.add fd.offset))) Γ.w := by
          rintro a rfl
          simp [Instr.fieldAt, run_underlying hu, hfd, Instr.sureAddr, fieldPlace, sizeP_run hsz]
        cases p <;> simp only [faddrA] at hr <;> try contradiction
        case ptr id o =>
          cases hr
          simp only [VRel] at hv
          obtain ⟨hi, rfl⟩ := hv
          refine OpOk.same h (key _ rfl) ?_
          simp only [VRel, add_at]
          exact ⟨hi, by rw [Nat.add_assoc]⟩
        case fptr cs o =>
          cases hr
          simp only [VRel] at hv
          obtain ⟨b, o', rfl, hb, hc⟩ := hv
          refine OpOk.same h (key _ rfl) ?_
          simp only [VRel, add_at]
          exact ⟨b, o', by rw [Nat.add_assoc], hb, hc⟩
      · cases hf
    · cases hf
  · cases hf

/-- The address of an element of a slice. -/
def iaddrA (sz : Nat) (x i : AV) : Option AV :=
  match x, i with
  | .sl id off len sz' _ _, .int _ i => if sz' = sz ∧ 0 ≤ i ∧ i < len then some (.ptr id (off + i.toNat * sz)) else none
  | .fsl cs len, .int _ i => if cs ≠ [] ∧ 0 ≤ i ∧ i < len then some (.fptr cs (i.toNat * sz)) else none
  | _, _ => none

def sliceP (P : Program) (t : TypeId) : Option (TypeId × Nat) :=
  match P.underlying t with
  | some (.slice e) => (sizeP P e).map fun n => (e, n)
  | _ => none
theorem sliceP_some {P : Program} {t e : TypeId} {n : Nat} (h : sliceP P t = some (e, n)) : P.underlying t = some (.slice e) ∧ sizeP P e = some n := by
  unfold sliceP at h
  split at h
  · rename_i e' hu
    cases hs : sizeP P e' with
    | none => simp [hs] at h
    | some m => simp [hs] at h; obtain ⟨rfl, rfl⟩ := h; exact ⟨hu, hs⟩
  · cases h

theorem iaddr_ok {P : Program} {Γ : Cx} {hp : HP} (h : HSim Γ hp) {t e : TypeId} {sz : Nat} (ht : sliceP P t = some (e, sz)) {x i r : AV} {v u : Value} (hv : VRel Γ x v) (hu : VRel Γ i u) (hr : iaddrA sz x i = some r) :
    OpOk P Γ hp (Instr.indexAt t v u) r hp := by
  obtain ⟨hut, hsz⟩ := sliceP_some ht
  have key : ∀ (a : Addr) (len c : Nat) (k : IntKind) (n : Int), 0 ≤ n → n < len → (Instr.indexAt t (.slice (some a) len c) (.int k n)).run P Γ.w = .ok (.pointer (some (a.add (n.toNat * sz)))) Γ.w := by
    intro a len c k n h0 h1
    simp [Instr.indexAt, asIntOf, run_underlying hut, h0, h1, sizeP_run hsz]
  cases x <;> cases i <;> simp only [iaddrA] at hr <;> try contradiction
  case sl.int id off len sz' lo ex k n =>
    split at hr
    · rename_i hc
      obtain ⟨rfl, h0, h1⟩ := hc
      cases hr
      simp only [VRel] at hv hu
      obtain ⟨hi, o, c, e', m, rfl, ho, k1, k2, k3, k4, k5⟩ := hv
      subst hu
      refine OpOk.same h (key _ _ _ _ _ h0 h1) ?_
      simp only [VRel, add_at]
      refine ⟨hi, ?_⟩
      have : o = (Γ.β id).2 + off := by rcases ho with h' | h'
                                        · omega
                                        · exact h'
      rw [this, Nat.add_assoc]
    · cases hr
  case fsl.int cs len k n =>
    split at hr
    · rename_i hc
      obtain ⟨hne, h0, h1⟩ := hc
      cases hr
      simp only [VRel] at hv hu
      obtain ⟨b, o, c, rfl, k1, k2, k3⟩ := hv.resolve_left fun h => hne h.2.2
      subst hu
      refine OpOk.same h (key _ _ _ _ _ h0 h1) ?_
      simp only [VRel, add_at]
      exact ⟨b, o, rfl, k2.resolve_left hne, k3⟩
    · cases hr

end Go.Gi
