/- Arguments of laws: whatever plain data comes in, trees stand for it. -/
import Derived.Test.YtakdhioafodhcaaGreatDoorGiQ
import Derived.Test.YtakdhioafodhcaaGreatDoorGiP
import Derived.Deep.Slices
import Derived.SizedLaws
import Derived.Carry
set_option linter.unusedVariables false
set_option linter.unusedSimpArgs false
namespace Go.Gi
open Go Go.Deep Go.ChangeShapes Go.WideShapes

/-- Fields that lie one behind the other. -/
def flush (P : Program) : Nat → Nat → List Field → Bool
  | o, n, [] => Nat.beq o n
  | o, n, f :: fs => Nat.beq f.offset o && flush P (o + P.cellsOf f.type) n fs
/-- Types of truth values, numbers, strings, structs and slices of such. -/
def plT (P : Program) : Nat → TypeId → Bool
  | 0, _ => false
  | n + 1, t => match P.underlying t with
    | some .bool => true
    | some (.int _) => true
    | some .string => true
    | some (.slice e) => plT P n e && Nat.blt 0 (P.bytesOf e) && Nat.blt 0 (P.cellsOf e)
    | some (.struct fs) => fs.toList.all (fun f => plT P n f.type) && flush P 0 (P.cellsOf t) fs.toList
    | _ => false
def hasFs (H : TypeId → List AV → Prop) : List Field → List AV → Prop
  | [], as => as = []
  | f :: fs, as => ∃ p q, as = p ++ q ∧ H f.type p ∧ hasFs H fs q
/-- Cells that stand for a value of the type. -/
def HasT (P : Program) : Nat → TypeId → List AV → Prop
  | 0, _, _ => False
  | n + 1, t, as => match P.underlying t with
    | some .bool => ∃ b, as = [.bool b]
    | some (.int k) => ∃ m, as = [.int k m] ∧ k.min ≤ m ∧ m ≤ k.max
    | some .string => ∃ s, as = [.str s] ∧ s.length ≤ reachBytes
    | some (.slice e) => ∃ xss : List (List AV), as = [.fsl xss.flatten xss.length] ∧ (∀ xs ∈ xss, HasT P n e xs) ∧ xss.length ≤ reachBytes
    | some (.struct fs) => hasFs (HasT P n) fs.toList as
    | _ => False

theorem wf_has {k : IntKind} {m : Int} (h : (Lit.int k m).wf = true) : k.min ≤ m ∧ m ≤ k.max := by
  simpa [Lit.wf] using h

theorem cells?_get {w : World} {a : Addr} : ∀ {n : Nat} {cs : List Value}, w.cells? 0 a n = some cs → cs.length = n ∧ ∀ j v, cs[j]? = some v → w.cell? (a.add j) = some v := by
  intro n cs h
  unfold World.cells? at h
  rw [if_pos (Nat.zero_le _)] at h
  have key : ∀ (l : List Nat) (cs : List Value), l.mapM (fun i => w.cell? (a.add i)) = some cs → cs.length = l.length ∧ ∀ (j : Nat) (v : Value) (i : Nat), cs[j]? = some v → l[j]? = some i → w.cell? (a.add i) = some v := by
    intro l
    induction l with
    | nil => intro cs h; simp at h; subst h; simp
    | cons i l ih =>
      intro cs h
      rw [List.mapM_cons] at h
      simp only [Option.bind_eq_bind, Option.bind_eq_some_iff, Option.pure_def, Option.some.injEq] at h
      obtain ⟨v, hv, vs, hvs, rfl⟩ := h
      obtain ⟨h1, h2⟩ := ih vs hvs
      refine ⟨by simp [h1], fun j u k hu hk => ?_⟩
      cases j with
      | zero => simp at hu hk; subst hu hk; exact hv
      | succ j => exact h2 j u k (by simpa using hu) (by simpa using hk)
  obtain ⟨h1, h2⟩ := key _ _ h
  refine ⟨by simpa using h1, fun j v hv => h2 j v j hv ?_⟩
  have hj := (List.getElem?_eq_some_iff.1 hv).1
  rw [List.getElem?_range (by simpa [h1] using hj)]

section
variable {H : Type} {enc : TypeId × Value → H} {P : Program} {W : World} {L : Nat → LC}

theorem trod_fields {n : Nat} {r : TypeId → List Value → Option (DataW H × List MemPlace)} {A : TypeId → List AV → Prop} {cs : List Value} : ∀ (fs : List Field) (o : Nat) (xs : List (DataW H × List MemPlace)),
    flush P o cs.length fs = true → xs.length = fs.length → (∀ (i : Nat) (f : Field), fs[i]? = some f → r f.type ((cs.drop f.offset).take (P.cellsOf f.type)) = xs[i]?) → (∀ m ∈ DataW.weightsEach P (fs.map (·.type)) (xs.map (·.1)), m ≤ reachBytes) →
    (∀ f ∈ fs, ∀ cs' x, (∀ v ∈ cs', v ∈ cs) → r f.type cs' = some x → (∀ m ∈ x.1.weights P f.type, m ≤ reachBytes) → ∃ as, VRels (base L W) as cs' ∧ (∀ v ∈ cs', one v = true) ∧ A f.type as) →
    ∃ as, VRels (base L W) as (cs.drop o) ∧ (∀ v ∈ cs.drop o, one v = true) ∧ hasFs A fs as
  | [], o, xs, hf, hlx, h, hw, ih => by
    simp only [flush] at hf
    have := Nat.eq_of_beq_eq_true hf
    subst this
    exact ⟨[], by simp [VRels], by simp, rfl⟩
  | f :: fs, o, [], hf, hlx, h, hw, ih => by simp at hlx
  | f :: fs, o, x :: ys, hf, hlx, h, hw, ih => by
    simp only [flush, Bool.and_eq_true] at hf
    have ho := Nat.eq_of_beq_eq_true hf.1
    have hx := h 0 f rfl
    simp only [List.getElem?_cons_zero] at hx
    have hys : ∀ (i : Nat) (g : Field), fs[i]? = some g → r g.type ((cs.drop g.offset).take (P.cellsOf g.type)) = ys[i]? := fun i g hg => h (i + 1) g (by simpa using hg)
    simp only [List.map_cons, DataW.weightsEach, List.mem_append] at hw
    rw [ho] at hx
    obtain ⟨as, h1, h2, h3⟩ := ih f List.mem_cons_self _ _ (fun v hv => List.mem_of_mem_drop (List.mem_of_mem_take hv)) hx (fun m hm => hw m (.inl hm))
    obtain ⟨bs, k1, k2, k3⟩ := trod_fields (n := n) fs (o + P.cellsOf f.type) ys hf.2 (by simpa using hlx) hys (fun m hm => hw m (.inr hm)) (fun g hg => ih g (List.mem_cons_of_mem _ hg))
    have e : cs.drop o = (cs.drop o).take (P.cellsOf f.type) ++ cs.drop (o + P.cellsOf f.type) := by
      conv => lhs; rw [← List.take_append_drop (P.cellsOf f.type) (cs.drop o)]
      rw [List.drop_drop]
    refine ⟨as ++ bs, by rw [e]; exact h1.append k1, fun v hv => ?_, as, bs, rfl, h3, k3⟩
    rw [e, List.mem_append] at hv
    exact hv.elim (h2 v) (k2 v)

theorem trod_has : ∀ (n : Nat) (fuel : Nat) (t : TypeId) (cs : List Value) (x : DataW H × List MemPlace), plT P n t = true → DataW.trod enc P W 0 (fun _ => true) true fuel t cs = some x → (∀ m ∈ x.1.weights P t, m ≤ reachBytes) →
    ∃ as, VRels (base L W) as cs ∧ (∀ v ∈ cs, one v = true) ∧ HasT P n t as
  | 0, fuel, t, cs, x, hok, _, _ => by simp [plT] at hok
  | n + 1, 0, t, cs, x, hok, h, _ => by simp [DataW.trod] at h
  | n + 1, fuel + 1, t, cs, x, hok, h, hw => by
    simp only [plT] at hok
    simp only [HasT]
    split at hok
    · rename_i hu
      obtain ⟨b, rfl, _⟩ := DataW.trod_bool hu h
      exact ⟨[.bool b], by simp [VRels, VRel], by simp [one], b, rfl⟩
    · rename_i k hu
      obtain ⟨m, rfl, _, hwf⟩ := DataW.trod_int hu h
      exact ⟨[.int k m], by simp [VRels, VRel], by simp [one], m, rfl, wf_has hwf⟩
    · rename_i hu
      obtain ⟨s, rfl, rfl, _⟩ := DataW.trod_string hu h
      refine ⟨[.str s.data.toList], by simp [VRels, VRel], by simp [one], _, rfl, ?_⟩
      exact hw _ (by simp [DataW.weights])
    · rename_i e hu
      simp only [Bool.and_eq_true] at hok
      obtain ⟨⟨hoke, hbe⟩, hce⟩ := hok
      have hbe' : 0 < P.bytesOf e := by simpa [Nat.blt_eq] using hbe
      have hce' : 0 < P.cellsOf e := by simpa [Nat.blt_eq] using hce
      rcases open_slice hu h with ⟨rfl, rfl⟩ | ⟨a, len, cap, m, k, D, Pl, rfl, _, hlen, hcap, hmm, rfl, hel⟩
      · exact ⟨[.fsl [] 0], by simp [VRels, VRel, NilS], by simp [one], [], rfl, by simp, by simp⟩
      · simp only [if_true] at hmm
        subst hmm
        by_cases hm0 : m = 0
        · subst hm0
          obtain rfl : len = 0 := by omega
          exact ⟨[.fsl [] 0], by simp [VRels, VRel, NilS], by simp [one], [], rfl, by simp, by simp⟩
        have hsp : a.spot = none := by
          obtain ⟨cs', hc1, _⟩ := hel 0 (by omega)
          obtain ⟨hcl, hcg⟩ := cells?_get hc1
          have h0 := hcg 0 _ (List.getElem?_eq_getElem (by omega))
          unfold World.cell? at h0
          split at h0
          · split at h0
            · cases h0
            · rename_i hns
              simpa [Addr.add] using hns
          · cases h0
        obtain ⟨b, o, sp⟩ := a
        simp only at hsp
        subst hsp
        have hwl : m * P.bytesOf e ≤ reachBytes := by
          have := hw _ (by simp only [DataW.weights, hu]; exact List.mem_cons_self)
          simp only [List.length_map, List.length_range] at this
          rwa [show len + (m - len) = m by omega] at this
        have hwe : ∀ i, i < len → ∀ q ∈ (D i).weights P e, q ≤ reachBytes := by
          intro i hi q hq
          have mem : ∀ (l : List (DataW H)) (d : DataW H), d ∈ l → ∀ q ∈ d.weights P e, q ∈ DataW.weightsAll P e l := by
            intro l
            induction l with
            | nil => intro d hd; simp at hd
            | cons y l ih =>
              intro d hd q hq
              simp only [DataW.weightsAll, List.mem_append]
              rcases List.mem_cons.1 hd with rfl | hd
              · exact .inl hq
              · exact .inr (ih d hd q hq)
          refine hw q ?_
          simp only [DataW.weights, hu]
          refine List.mem_cons_of_mem _ (List.mem_append_left _ (mem _ (D i) ?_ q hq))
          exact List.mem_map.2 ⟨i, List.mem_range.2 hi, rfl⟩
        have hadd : ∀ o q, (⟨b, o, none⟩ : Addr).add q = ⟨b, o + q, none⟩ := fun o q => by
          unfold Addr.add
          split
          · rename_i h0; subst h0; rfl
          · rfl
        have build : ∀ q, q ≤ len → ∃ xss : List (List AV), xss.length = q ∧ (∀ xs ∈ xss, HasT P n e xs) ∧ CellsAt (base L W) xss.flatten b o ∧ xss.flatten.length = q * P.cellsOf e := by
          intro q
          induction q with
          | zero => exact fun _ => ⟨[], rfl, by simp, by simp [CellsAt], by simp⟩
          | succ q ih =>
            intro hq
            obtain ⟨xss, h1, h2, h3, h4⟩ := ih (by omega)
            obtain ⟨cs', hc1, hc2⟩ := hel q (by omega)
            obtain ⟨hcl, hcg⟩ := cells?_get hc1
            obtain ⟨as, k1, k2, k3⟩ := trod_has n k e cs' _ hoke hc2 (hwe q (by omega))
            refine ⟨xss ++ [as], by simp [h1], ?_, ?_, ?_⟩
            · intro xs hxs
              rcases List.mem_append.1 hxs with hxs | hxs
              · exact h2 xs hxs
              · simp only [List.mem_singleton] at hxs; subst hxs; exact k3
            · rw [List.flatten_append]
              refine h3.append ?_
              rw [h4]
              simp only [List.flatten_cons, List.flatten_nil, List.append_nil]
              refine CellsAt.of fun i y hy => ?_
              have hi : i < cs'.length := by rw [← k1.length]; exact (List.getElem?_eq_some_iff.1 hy).1
              have hg := k1.get i
              simp only [List.getD_eq_getElem?_getD, hy, List.getElem?_eq_getElem hi, Option.getD_some] at hg
              have hcell := hcg i _ (List.getElem?_eq_getElem hi)
              rw [hadd, hadd] at hcell
              exact ⟨_, hcell, k2 _ (List.getElem_mem hi), hg⟩
            · rw [List.flatten_append, List.length_append, h4, Nat.succ_mul]
              simp [k1.length, hcl]
        obtain ⟨xss, h1, h2, h3, h4⟩ := build len (Nat.le_refl _)
        refine ⟨[.fsl xss.flatten xss.length], ?_, by simp [one], xss, rfl, h2, ?_⟩
        · simp only [VRels, VRel]
          refine ⟨_, _, rfl, .inr ⟨b, o, m, by rw [h1], by omega, ?_, h3⟩, rfl⟩
          by_cases h0 : len = 0
          · left
            exact List.eq_nil_of_length_eq_zero (by rw [h4, h0, Nat.zero_mul])
          · right
            have : 0 < xss.flatten.length := by rw [h4]; exact Nat.mul_pos (by omega) hce'
            obtain ⟨v, hv, _⟩ := h3.get 0 _ (List.getElem?_eq_getElem this)
            show b < W.heap.size
            simp only [base, World.cell?, Nat.add_zero] at hv
            cases hh : W.heap[b]? with
            | none => rw [hh] at hv; cases hv
            | some ob => exact (Array.getElem?_eq_some_iff.1 hh).1
        · rw [h1]
          have : len * 1 ≤ m * P.bytesOf e := Nat.mul_le_mul hlen hbe'
          omega
    · rename_i fs hu
      simp only [Bool.and_eq_true] at hok
      obtain ⟨xs, k, hfu, rfl, hcl, hlx, hm⟩ := DataW.trod_struct hu h
      simp only [Nat.add_right_cancel_iff] at hfu
      subst hfu
      have hw' : ∀ m ∈ DataW.weightsEach P (fs.toList.map (·.type)) (xs.map (·.1)), m ≤ reachBytes := by
        simpa [DataW.weights, hu] using hw
      have := trod_fields (L := L) (W := W) (P := P) (n := n) (A := HasT P n) (cs := cs) fs.toList 0 xs (by rw [hcl]; exact hok.2) (by simpa using hlx) (fun i f hf => hm i f (by simpa using hf)) hw' (fun f hf cs' x' hsub hx' hwx => by
        have := List.all_eq_true.1 hok.1 f hf
        exact trod_has n fuel f.type cs' x' this hx' hwx)
      simpa using this
    · cases hok

/-- A value that stands for one of the type. -/
def HasV (P : Program) (n : Nat) (t : TypeId) (a : AV) : Prop :=
  match P.underlying t with
  | some (.struct _) => ∃ as, a = .agg as ∧ HasT P n t as
  | _ => HasT P n t [a]

theorem open_any {r : Reach} {b0 : Nat} {t : TypeId} {v : Value} {d : DataW H} {ps : List MemPlace} {n : Nat} (hok : plT P n t = true) (hval : Value.okWide P W r b0 t v) (hd : DataW.Trod enc P W 0 (fun _ => true) true t v d ps) (hw : ∀ m ∈ d.weights P t, m ≤ reachBytes) :
    ∃ a, VRel (base L W) a v ∧ HasV P n t a := by
  obtain ⟨fuel, hf⟩ := hd
  obtain ⟨as, h1, h2, h3⟩ := trod_has (L := L) n fuel t v.cells.toList _ hok hf hw
  unfold HasV
  split
  · rename_i fs hu
    have : ∃ cs, v = .agg cs := by
      unfold Value.okWide at hval
      rw [hu] at hval
      obtain ⟨cs, rfl, _⟩ := hval
      exact ⟨cs, rfl⟩
    obtain ⟨cs, rfl⟩ := this
    refine ⟨.agg as, ?_, as, rfl, h3⟩
    simp only [VRel]
    refine ⟨cs.toList, rfl, by simpa [Value.cells] using h1, fun u hu => h2 u (by simpa [Value.cells] using hu)⟩
  · rename_i hns
    have hone : ∃ a, as = [a] := by
      cases n with
      | zero => simp [HasT] at h3
      | succ n =>
        simp only [HasT] at h3
        split at h3
        · obtain ⟨b, rfl⟩ := h3; exact ⟨_, rfl⟩
        · obtain ⟨b, rfl, _⟩ := h3; exact ⟨_, rfl⟩
        · obtain ⟨b, rfl, _⟩ := h3; exact ⟨_, rfl⟩
        · obtain ⟨b, rfl, _⟩ := h3; exact ⟨_, rfl⟩
        · rename_i fs hu; exact absurd hu (hns fs)
        · cases h3
    obtain ⟨a, rfl⟩ := hone
    refine ⟨a, ?_, h3⟩
    simp only [VRels] at h1
    obtain ⟨u, us, h4, h5, h6⟩ := h1
    subst h6
    have hv : v = u := by
      cases v with
      | agg cs =>
        exfalso
        unfold Value.okWide at hval
        split at hval
        · rename_i fs hu; exact hns _ hu
        · rename_i k e hu
          cases n with
          | zero => simp [plT] at hok
          | succ n => simp [plT, hu] at hok
        · unfold Cell.okWide at hval
          split at hval <;> simp_all [Cell.ok]
      | tuple cs =>
        exfalso
        unfold Value.okWide at hval
        split at hval
        · obtain ⟨cs', h, _⟩ := hval; cases h
        · obtain ⟨cs', h, _⟩ := hval; cases h
        · unfold Cell.okWide at hval
          split at hval <;> simp_all [Cell.ok]
      | _ => simpa [Value.cells] using h4
    rw [hv]
    exact h5
end

theorem has_int {P : Program} {n : Nat} {t : TypeId} {a : AV} {k : IntKind} (hu : P.underlying t = some (.int k)) (h : HasV P (n + 1) t a) : ∃ m, a = .int k m ∧ k.min ≤ m ∧ m ≤ k.max := by
  simp only [HasV, hu, HasT, List.cons.injEq, and_true] at h
  exact h
end Go.Gi
