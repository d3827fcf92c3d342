/- Numbers, strings and truth values; comparing; parts of structs; interface values. -/
import Derived.Test.YtakdhioafodhcaaGreatDoorGiF
import Derived.Laws.StructEq
import Derived.Laws.Pointers
set_option linter.unusedVariables false
set_option linter.unusedSimpArgs false
namespace Go.Gi
open Go

theorem byteList (s : List UInt8) : (⟨s.toArray⟩ : ByteArray).toList = s := by rw [ByteArray.toList_eq]
theorem byteSize (s : List UInt8) : (⟨s.toArray⟩ : ByteArray).size = s.length := by simp [ByteArray.size]
theorem byteCat (s t : List UInt8) : (⟨s.toArray⟩ ++ ⟨t.toArray⟩ : ByteArray) = ⟨(s ++ t).toArray⟩ := by
  apply ByteArray.ext
  apply Array.ext'
  simp

/-! ### What two values are compared as -/
inductive Leaf where
  | int | bool | str
  deriving DecidableEq

def leafEq : Leaf → AV → AV → Option Bool
  | .int, .int k a, .int k' b => if k = k' then some (decide (a = b)) else none
  | .bool, .bool a, .bool b => some (a == b)
  | .str, .str a, .str b => some (decide (a = b))
  | _, _, _ => none

def leavesEq : List Leaf → List AV → List AV → Option Bool
  | [], [], [] => some true
  | l :: ls, a :: as, b :: bs => match leafEq l a b, leavesEq ls as bs with
    | some p, some q => some (p && q)
    | _, _ => none
  | _, _, _ => none

theorem leavesEq_len : ∀ {ls : List Leaf} {as bs : List AV} {r : Bool}, leavesEq ls as bs = some r → as.length = ls.length ∧ bs.length = ls.length
  | [], [], [], _, _ => ⟨rfl, rfl⟩
  | l :: ls, a :: as, b :: bs, r, h => by
    simp only [leavesEq] at h
    split at h
    · rename_i p q h1 h2
      have := leavesEq_len h2
      simp [this.1, this.2]
    · cases h
  | [], _ :: _, _, _, h => by simp [leavesEq] at h
  | [], [], _ :: _, _, h => by simp [leavesEq] at h
  | _ :: _, [], _, _, h => by simp [leavesEq] at h
  | _ :: _, _ :: _, [], _, h => by simp [leavesEq] at h

theorem leavesEq_app : ∀ {l1 l2 : List Leaf} {as bs : List AV} {r : Bool}, leavesEq (l1 ++ l2) as bs = some r →
    ∃ p q, leavesEq l1 (as.take l1.length) (bs.take l1.length) = some p ∧ leavesEq l2 (as.drop l1.length) (bs.drop l1.length) = some q ∧ r = (p && q)
  | [], l2, as, bs, r, h => ⟨true, r, by simp [leavesEq], by simpa using h, by simp⟩
  | l :: l1, l2, as, bs, r, h => by
    rcases as with _ | ⟨a, as⟩
    · simp [leavesEq] at h
    · rcases bs with _ | ⟨b, bs⟩
      · simp [leavesEq] at h
      · simp only [List.cons_append, leavesEq] at h
        split at h
        · rename_i p q h1 h2
          obtain ⟨p', q', k1, k2, k3⟩ := leavesEq_app h2
          refine ⟨p && p', q', ?_, by simpa using k2, ?_⟩
          · simp only [List.length_cons, List.take_succ_cons, leavesEq, h1, k1]
          · simp only [Option.some.injEq] at h
            rw [← h, k3, Bool.and_assoc]
        · cases h

/-- The leaves of fields, one after the other. -/
def leafGo (P : Program) (rec : TypeId → Option (List Leaf)) : Nat → List Field → Option (List Leaf)
  | _, [] => some []
  | off, f :: fs =>
    match rec f.type with
    | some ls => if (f.name == "_") = false ∧ f.offset = off ∧ sizeP P f.type = some ls.length then (leafGo P rec (off + ls.length) fs).map (ls ++ ·) else none
    | none => none
/-- The leaves of a type of whole numbers, truth values and strings. -/
def leafP (P : Program) : Nat → TypeId → Option (List Leaf)
  | 0, _ => none
  | d + 1, t =>
    match P.underlying t with
    | some .bool => some [.bool]
    | some (.int _) => some [.int]
    | some .string => some [.str]
    | some (.struct fs) => if P.stoodInHeld t then none else leafGo P (leafP P d) 0 fs.toList
    | _ => none

/-- A type's value out of its cells. -/
def ofCells (P : Program) (t : TypeId) (cs : List AV) : Option AV :=
  match P.underlying t with
  | some (.struct _) => some (.agg cs)
  | _ => match cs with
    | [a] => some a
    | _ => none

theorem leafEq_run {P : Program} {w : World} {Γ : Cx} {D : Nat} {t : TypeId} {l : Leaf} (ht : (l = .bool ∧ P.underlying t = some .bool) ∨ (l = .int ∧ ∃ k, P.underlying t = some (.int k)) ∨ (l = .str ∧ P.underlying t = some .string)) {a b : AV} {u v : Value} {r : Bool}
    (ha : VRel Γ a u) (hb : VRel Γ b v) (h : leafEq l a b = some r) : (Op.equalIn (D + 1) t u v).run P w = .ok r w := by
  rcases ht with ⟨rfl, hu⟩ | ⟨rfl, k, hu⟩ | ⟨rfl, hu⟩
  · cases a <;> cases b <;> simp only [leafEq, reduceCtorEq, Option.some.injEq] at h
    simp only [VRel] at ha hb
    subst ha hb h
    exact run_equalIn_bool' w D t _ _ hu
  · cases a <;> cases b <;> simp only [leafEq, reduceCtorEq] at h
    split at h
    · rename_i hk
      subst hk
      simp only [Option.some.injEq] at h
      simp only [VRel] at ha hb
      subst ha hb h
      rw [run_equalIn_int w D t _ k _ _ hu]
      rfl
    · cases h
  · cases a <;> cases b <;> simp only [leafEq, reduceCtorEq, Option.some.injEq] at h
    simp only [VRel] at ha hb
    subst ha hb h
    rw [run_equalIn_string w D t _ _ hu, byteList, byteList]
    congr 1
    rw [Bool.eq_iff_iff]; simp

theorem part_run {P : Program} {w : World} {Γ : Cx} {t : TypeId} {n off : Nat} {cs : List AV} {vs : List Value} (hs : sizeP P t = some n) (hn : ∀ d, P.underlying t = some d → (∃ fs, d = .struct fs) ∨ ((∀ fs, d ≠ .struct fs) ∧ (∀ m e, d ≠ .array m e) ∧ n = 1)) (hd : (P.underlying t).isSome = true)
    (hv : VRels Γ cs vs) (h1 : ∀ u ∈ vs, one u = true) (hl : off + n ≤ cs.length) : ∃ x v, ofCells P t ((cs.drop off).take n) = some x ∧ (part t ⟨vs⟩ off).run P w = .ok v w ∧ VRel Γ x v ∧ cellsA x = (cs.drop off).take n := by
  obtain ⟨d, hu⟩ := Option.isSome_iff_exists.1 hd
  have hvl := hv.length
  rcases hn d hu with ⟨fs, rfl⟩ | ⟨h2, h3, rfl⟩
  · refine ⟨.agg ((cs.drop off).take n), .agg ⟨(vs.drop off).take n⟩, by simp [ofCells, hu], ?_, ?_, rfl⟩
    · simp only [part, isAgg, Sem.run_bind, run_underlying hu, Result.andThen_ok, Sem.run_pure, if_true, sizeP_run hs]
      congr 2
      apply Array.ext'
      simp [List.extract]
    · simp only [VRel]
      exact ⟨_, rfl, (hv.drop off).take n, fun u hu => h1 u (List.mem_of_mem_drop (List.mem_of_mem_take hu))⟩
  · have hlt : off < vs.length := by omega
    have hlt' : off < cs.length := by omega
    have hg := hv.get off
    simp only [List.getD, List.getElem?_eq_getElem hlt, List.getElem?_eq_getElem hlt', Option.getD_some] at hg
    have htake : (cs.drop off).take 1 = [cs[off]] := by
      rw [List.drop_eq_getElem_cons hlt']; rfl
    have hone : cellsA cs[off] = [cs[off]] := by
      have := h1 vs[off] (List.getElem_mem _)
      cases hx : cs[off] <;> simp only [cellsA] <;> rw [hx] at hg <;> simp only [VRel] at hg
      obtain ⟨_, hg, _⟩ := hg
      rw [hg] at this
      simp [one] at this
    refine ⟨cs[off], vs[off], ?_, ?_, hg, by rw [hone, htake]⟩
    · rw [htake]
      cases d <;> first | exact absurd rfl (h2 _) | simp [ofCells, hu]
    · have hagg : (isAgg t).run P w = .ok false w := by
        cases d <;> first | exact absurd rfl (h2 _) | exact absurd rfl (h3 _ _) | simp [isAgg, run_underlying hu]
      simp [part, hagg, hlt]

theorem leafP_kind {P : Program} {d : Nat} {t : TypeId} {ls : List Leaf} (h : leafP P d t = some ls) (hs : sizeP P t = some ls.length) :
    (P.underlying t).isSome = true ∧ ∀ D, P.underlying t = some D → (∃ fs, D = .struct fs) ∨ ((∀ fs, D ≠ .struct fs) ∧ (∀ m e, D ≠ .array m e) ∧ ls.length = 1) := by
  cases d with
  | zero => simp [leafP] at h
  | succ d =>
    simp only [leafP] at h
    split at h
    · rename_i hu; simp only [Option.some.injEq] at h; subst h; exact ⟨by rw [hu]; rfl, fun D hD => .inr (by rw [hu] at hD; cases hD; simp)⟩
    · rename_i hu; simp only [Option.some.injEq] at h; subst h; exact ⟨by rw [hu]; rfl, fun D hD => .inr (by rw [hu] at hD; cases hD; simp)⟩
    · rename_i hu; simp only [Option.some.injEq] at h; subst h; exact ⟨by rw [hu]; rfl, fun D hD => .inr (by rw [hu] at hD; cases hD; simp)⟩
    · rename_i fs hu; exact ⟨by rw [hu]; rfl, fun D hD => .inl (by rw [hu] at hD; cases hD; exact ⟨fs, rfl⟩)⟩
    · cases h

theorem leavesEq_run {P : Program} {Γ : Cx} {w : World} : ∀ (d : Nat) {t : TypeId} {ls : List Leaf} {x y : AV} {u v : Value} {r : Bool} (D : Nat), leafP P d t = some ls → VRel Γ x u → VRel Γ y v →
    ofCells P t (cellsA x) = some x → ofCells P t (cellsA y) = some y → leavesEq ls (cellsA x) (cellsA y) = some r → (Op.equalIn (D + d) t u v).run P w = .ok r w
  | 0, t, ls, x, y, u, v, r, D, h, _, _, _, _, _ => by simp [leafP] at h
  | d + 1, t, ls, x, y, u, v, r, D, h, hx, hy, ox, oy, he => by
    simp only [leafP] at h
    have leaf : ∀ (l : Leaf), ((l = .bool ∧ P.underlying t = some .bool) ∨ (l = .int ∧ ∃ k, P.underlying t = some (.int k)) ∨ (l = .str ∧ P.underlying t = some .string)) → ls = [l] → (Op.equalIn (D + d + 1) t u v).run P w = .ok r w := by
      intro l ht hls
      subst hls
      have hns : ∀ c, ofCells P t c = some x → ∃ a, c = [a] ∧ a = x := by
        intro c hc
        unfold ofCells at hc
        rcases ht with ⟨_, hu⟩ | ⟨_, k, hu⟩ | ⟨_, hu⟩ <;> rw [hu] at hc <;> simp only at hc <;> split at hc <;> simp only [Option.some.injEq, reduceCtorEq] at hc <;> exact ⟨_, rfl, hc⟩
      have hns' : ∀ c, ofCells P t c = some y → ∃ a, c = [a] ∧ a = y := by
        intro c hc
        unfold ofCells at hc
        rcases ht with ⟨_, hu⟩ | ⟨_, k, hu⟩ | ⟨_, hu⟩ <;> rw [hu] at hc <;> simp only at hc <;> split at hc <;> simp only [Option.some.injEq, reduceCtorEq] at hc <;> exact ⟨_, rfl, hc⟩
      obtain ⟨a, ha, rfl⟩ := hns _ ox
      obtain ⟨b, hb, rfl⟩ := hns' _ oy
      rw [ha, hb] at he
      simp only [leavesEq] at he
      split at he
      · rename_i p q h1 h2
        simp only [Option.some.injEq] at h2 he
        subst h2
        simp only [Bool.and_true] at he
        subst he
        exact leafEq_run ht hx hy h1
      · cases he
    split at h
    · rename_i hu; simp only [Option.some.injEq] at h; exact leaf .bool (.inl ⟨rfl, hu⟩) h.symm
    · rename_i k hu; simp only [Option.some.injEq] at h; exact leaf .int (.inr (.inl ⟨rfl, k, hu⟩)) h.symm
    · rename_i hu; simp only [Option.some.injEq] at h; exact leaf .str (.inr (.inr ⟨rfl, hu⟩)) h.symm
    · rename_i fs hu
      split at h
      · cases h
      · rename_i hst
        simp only [ofCells, hu, Option.some.injEq] at ox oy
        rw [← ox] at hx
        rw [← oy] at hy
        simp only [VRel] at hx hy
        obtain ⟨xs, rfl, hxs, x1⟩ := hx
        obtain ⟨ys, rfl, hys, y1⟩ := hy
        have hfs : P.fieldsOf t = fs := by simp [Program.fieldsOf, hu]
        have hgo : ∀ (fl : List Field) (off : Nat) (l : List Leaf) (r : Bool), off ≤ (cellsA x).length ∧ off ≤ (cellsA y).length → leafGo P (leafP P d) off fl = some l → leavesEq l ((cellsA x).drop off) ((cellsA y).drop off) = some r → (Op.eqFields (D + d) ⟨xs⟩ ⟨ys⟩ fl).run P w = .ok r w := by
          intro fl
          induction fl with
          | nil =>
            intro off l r hle hl hr
            simp only [leafGo, Option.some.injEq] at hl
            subst hl
            have := leavesEq_len hr
            have e1 : (cellsA x).drop off = [] := List.eq_nil_of_length_eq_zero this.1
            have e2 : (cellsA y).drop off = [] := List.eq_nil_of_length_eq_zero this.2
            rw [e1, e2] at hr
            simp only [leavesEq, Option.some.injEq] at hr
            subst hr
            simp [Op.eqFields]
          | cons f fl ih =>
            intro off l r hle hl hr
            simp only [leafGo] at hl
            split at hl
            · rename_i lf hlf
              split at hl
              · rename_i hc
                obtain ⟨hname, hoff, hsz⟩ := hc
                cases hg : leafGo P (leafP P d) (off + lf.length) fl with
                | none => simp [hg] at hl
                | some l' =>
                  simp only [hg, Option.map_some, Option.some.injEq] at hl
                  subst hl
                  obtain ⟨p, q, k1, k2, rfl⟩ := leavesEq_app hr
                  rw [List.drop_drop, List.drop_drop] at k2
                  have hlen := leavesEq_len k1
                  obtain ⟨kd, kk⟩ := leafP_kind hlf hsz
                  have h0 := leavesEq_len hr
                  simp only [List.length_drop, List.length_append] at h0
                  have hlx : off + lf.length ≤ (cellsA x).length := by omega
                  have hly : off + lf.length ≤ (cellsA y).length := by omega
                  obtain ⟨a, va, o1, pa, ra, ca⟩ := part_run (P := P) (w := w) (off := off) hsz kk kd hxs x1 hlx
                  obtain ⟨b, vb, o2, pb, rb, cb⟩ := part_run (P := P) (w := w) (off := off) hsz kk kd hys y1 hly
                  have hrec := leavesEq_run d (w := w) D hlf ra rb (by rw [ca]; exact o1) (by rw [cb]; exact o2) (by rw [ca, cb]; exact k1)
                  have hname' : f.name ≠ "_" := by simpa using hname
                  have hih := ih (off + lf.length) l' q ⟨hlx, hly⟩ hg k2
                  cases p <;> simp [Op.eqFields, hname', hoff, pa, pb, hrec, hih]
              · cases hl
            · cases hl
        have e0 : D + (d + 1) = (D + d) + 1 := by omega
        rw [e0, run_equalIn_struct w (D + d) t ⟨xs⟩ ⟨ys⟩ (by rw [hfs]; exact hu) (by simpa using hst), hfs]
        exact hgo fs.toList 0 ls r ⟨Nat.zero_le _, Nat.zero_le _⟩ h (by simpa using he)
    · cases h

end Go.Gi
