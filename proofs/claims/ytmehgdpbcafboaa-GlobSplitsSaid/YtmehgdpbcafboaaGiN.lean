/- Calls that depend on no memory, and what they hand back is never written. -/
import Derived.Test.YtmehgdpbcafboaaGiM
set_option linter.unusedVariables false
set_option linter.unusedSimpArgs false
namespace Go.Gi
open Go

/-- What stands for a value in the first place stands for it in the second, if the world is the same, and what was never written, and all of this memory, is never written there. -/
def Frz (hp : HP) (r r' : AV) : Prop := ∀ (Δ Δ' : Cx) (v : Value), HSim Δ hp → VRel Δ r v → Δ'.w = Δ.w → (∀ b, Δ.Fz b → Δ'.Fz b) → (∀ b, Live Δ hp b → Δ'.Fz b) → VRel Δ' r' v
def FrzL (hp : HP) (r r' : List AV) : Prop := ∀ (Δ Δ' : Cx) (v : List Value), HSim Δ hp → VRels Δ r v → Δ'.w = Δ.w → (∀ b, Δ.Fz b → Δ'.Fz b) → (∀ b, Live Δ hp b → Δ'.Fz b) → VRels Δ' r' v

theorem Frz.int (hp : HP) (k : IntKind) (n : Int) : Frz hp (.int k n) (.int k n) := fun _ _ _ _ h _ _ _ => by simpa only [VRel] using h
theorem Frz.bool (hp : HP) (b : Bool) : Frz hp (.bool b) (.bool b) := fun _ _ _ _ h _ _ _ => by simpa only [VRel] using h
theorem Frz.str (hp : HP) (s : List UInt8) : Frz hp (.str s) (.str s) := fun _ _ _ _ h _ _ _ => by simpa only [VRel] using h
theorem Frz.nilp (hp : HP) : Frz hp .nilp .nilp := fun _ _ _ _ h _ _ _ => by simpa only [VRel] using h
theorem Frz.nils (hp : HP) : Frz hp .nils .nils := fun _ _ _ _ h _ _ _ => by simpa only [VRel] using h
theorem Frz.nilm (hp : HP) : Frz hp .nilm .nilm := fun _ _ _ _ h _ _ _ => by simpa only [VRel] using h
theorem Frz.nilf (hp : HP) : Frz hp .nilf .nilf := fun _ _ _ _ h _ _ _ => by simpa only [VRel] using h
theorem Frz.nili (hp : HP) : Frz hp .nili .nili := fun _ _ _ _ h _ _ _ => by simpa only [VRel] using h

theorem FrzL.nil (hp : HP) : FrzL hp [] [] := fun _ _ _ _ h _ _ _ => by simpa only [VRels] using h
theorem FrzL.cons {hp : HP} {a a' : AV} {as as' : List AV} (h : Frz hp a a') (k : FrzL hp as as') : FrzL hp (a :: as) (a' :: as') := fun Δ Δ' v h1 h2 h3 h4 h5 => by
  simp only [VRels] at h2 ⊢
  obtain ⟨u, us, rfl, h6, h7⟩ := h2
  exact ⟨u, us, rfl, h Δ Δ' u h1 h6 h3 h4 h5, k Δ Δ' us h1 h7 h3 h4 h5⟩
theorem FrzL.all {hp : HP} : ∀ {as : List AV}, (∀ a ∈ as, Frz hp a a) → FrzL hp as as
  | [], _ => FrzL.nil hp
  | a :: as, h => FrzL.cons (h a (by simp)) (FrzL.all fun b hb => h b (by simp [hb]))
theorem FrzL.get {hp : HP} {as as' : List AV} (h : FrzL hp as as') {Δ Δ' : Cx} {b o : Nat} (h1 : HSim Δ hp) (hc : CellsAt Δ as b o) (h3 : Δ'.w = Δ.w) (h4 : ∀ b, Δ.Fz b → Δ'.Fz b) (h5 : ∀ b, Live Δ hp b → Δ'.Fz b) : CellsAt Δ' as' b o := by
  obtain ⟨vs, q1, q2, q3, q4⟩ := hc.list
  have hr := h Δ Δ' vs h1 q1 h3 h4 h5
  refine CellsAt.of fun i a ha => ?_
  have hlt : i < vs.length := by rw [← hr.length]; exact (List.getElem?_eq_some_iff.1 ha).1
  have hg := hr.get i
  simp only [List.getD, ha, List.getElem?_eq_getElem hlt, Option.getD_some] at hg
  refine ⟨vs[i], ?_, q3 _ (List.getElem_mem _), hg⟩
  rw [h3]
  exact q4 i _ (List.getElem?_eq_getElem hlt)
theorem Frz.agg {hp : HP} {as as' : List AV} (h : FrzL hp as as') : Frz hp (.agg as) (.agg as') := fun Δ Δ' v h1 h2 h3 h4 h5 => by
  simp only [VRel] at h2 ⊢
  obtain ⟨us, rfl, h6, h7⟩ := h2
  exact ⟨us, rfl, h Δ Δ' us h1 h6 h3 h4 h5, h7⟩
theorem Frz.tup {hp : HP} {as as' : List AV} (h : FrzL hp as as') : Frz hp (.tup as) (.tup as') := fun Δ Δ' v h1 h2 h3 h4 h5 => by
  simp only [VRel] at h2 ⊢
  obtain ⟨us, rfl, h6⟩ := h2
  exact ⟨us, rfl, h Δ Δ' us h1 h6 h3 h4 h5⟩
theorem Frz.func {hp : HP} {f : FuncId} {as as' : List AV} (h : FrzL hp as as') : Frz hp (.func f as) (.func f as') := fun Δ Δ' v h1 h2 h3 h4 h5 => by
  simp only [VRel] at h2 ⊢
  obtain ⟨us, rfl, h6⟩ := h2
  exact ⟨us, rfl, h Δ Δ' us h1 h6 h3 h4 h5⟩
theorem Frz.iface {hp : HP} {t : TypeId} {a a' : AV} (h : Frz hp a a') : Frz hp (.iface t a) (.iface t a') := fun Δ Δ' v h1 h2 h3 h4 h5 => by
  simp only [VRel] at h2 ⊢
  obtain ⟨u, rfl, h6⟩ := h2
  exact ⟨u, rfl, h Δ Δ' u h1 h6 h3 h4 h5⟩
theorem Frz.fsl {hp : HP} {as as' : List AV} {len : Nat} (h : FrzL hp as as') : Frz hp (.fsl as len) (.fsl as' len) := fun Δ Δ' v h1 h2 h3 h4 h5 => by
  simp only [VRel] at h2 ⊢
  obtain ⟨b, o, c, rfl, h6, h7, h8⟩ := h2
  refine ⟨b, o, c, rfl, h6, ?_, h.get h1 h8 h3 h4 h5⟩
  rcases h7 with h7 | h7
  · left
    subst h7
    have := (h Δ Δ' [] h1 (by simp [VRels]) h3 h4 h5).length
    exact List.eq_nil_of_length_eq_zero this
  · exact .inr (h4 b h7)
theorem Frz.fptr {hp : HP} {as as' : List AV} {off : Nat} (h : FrzL hp as as') : Frz hp (.fptr as off) (.fptr as' off) := fun Δ Δ' v h1 h2 h3 h4 h5 => by
  simp only [VRel] at h2 ⊢
  obtain ⟨b, o, rfl, h7, h8⟩ := h2
  exact ⟨b, o, rfl, h4 b h7, h.get h1 h8 h3 h4 h5⟩
/-- A row of ours, which nobody writes from now on. -/
theorem Frz.sl {hp : HP} {id off len sz lo : Nat} {ex : Bool} {e : TypeId} {cs as' : List AV} (hx : hp[id]? = some (some (.row e cs))) (hl : off + len * sz ≤ cs.length) (h : FrzL hp ((cs.drop off).take (len * sz)) as') : Frz hp (.sl id off len sz lo ex) (.fsl as' len) := fun Δ Δ' v h1 h2 h3 h4 h5 => by
  simp only [VRel] at h2 ⊢
  obtain ⟨hi, o, c, e', m, rfl, ho, k1, k2, k3, k4, k5⟩ := h2
  refine ⟨_, o, c, rfl, by omega, .inr (h5 _ ⟨id, _, hx, rfl⟩), ?_⟩
  exact h.get h1 (sl_cells h1 hx ho (by omega) hl) h3 h4 h5
theorem Frz.ptr {hp : HP} {id off : Nat} {e : TypeId} {cs as' : List AV} (hx : hp[id]? = some (some (.row e cs))) (h : FrzL hp cs as') : Frz hp (.ptr id off) (.fptr as' off) := fun Δ Δ' v h1 h2 h3 h4 h5 => by
  simp only [VRel] at h2 ⊢
  obtain ⟨hi, rfl⟩ := h2
  have hb := (h1.blk id _ hx).1
  simp only [BRel] at hb
  exact ⟨_, _, rfl, h5 _ ⟨id, _, hx, rfl⟩, h.get h1 hb.2 h3 h4 h5⟩

/-- It names no block of ours. -/
def NoId (x : AV) : Prop := ∀ (Γ Γ' : Cx) (v : Value), VRel Γ x v → Γ'.w = Γ.w → (∀ b, Γ.Fz b → Γ'.Fz b) → VRel Γ' x v
def NoIdL (x : List AV) : Prop := ∀ (Γ Γ' : Cx) (v : List Value), VRels Γ x v → Γ'.w = Γ.w → (∀ b, Γ.Fz b → Γ'.Fz b) → VRels Γ' x v
theorem NoId.frz {x : AV} (h : NoId x) (hp : HP) : Frz hp x x := fun Δ Δ' v _ h2 h3 h4 _ => h Δ Δ' v h2 h3 h4
theorem NoIdL.frz {x : List AV} (h : NoIdL x) (hp : HP) : FrzL hp x x := fun Δ Δ' v _ h2 h3 h4 _ => h Δ Δ' v h2 h3 h4

theorem NoId.int (k : IntKind) (n : Int) : NoId (.int k n) := fun _ _ _ h _ _ => by simpa only [VRel] using h
theorem NoId.bool (b : Bool) : NoId (.bool b) := fun _ _ _ h _ _ => by simpa only [VRel] using h
theorem NoId.str (s : List UInt8) : NoId (.str s) := fun _ _ _ h _ _ => by simpa only [VRel] using h
theorem NoId.nilp : NoId .nilp := fun _ _ _ h _ _ => by simpa only [VRel] using h
theorem NoId.nils : NoId .nils := fun _ _ _ h _ _ => by simpa only [VRel] using h
theorem NoId.nilm : NoId .nilm := fun _ _ _ h _ _ => by simpa only [VRel] using h
theorem NoId.nilf : NoId .nilf := fun _ _ _ h _ _ => by simpa only [VRel] using h
theorem NoId.nili : NoId .nili := fun _ _ _ h _ _ => by simpa only [VRel] using h
theorem NoIdL.nil : NoIdL [] := fun _ _ _ h _ _ => by simpa only [VRels] using h
theorem NoIdL.cons {a : AV} {as : List AV} (h : NoId a) (k : NoIdL as) : NoIdL (a :: as) := fun Γ Γ' v h1 h2 h3 => by
  simp only [VRels] at h1 ⊢
  obtain ⟨u, us, rfl, h6, h7⟩ := h1
  exact ⟨u, us, rfl, h Γ Γ' u h6 h2 h3, k Γ Γ' us h7 h2 h3⟩
theorem NoIdL.all : ∀ {as : List AV}, (∀ a ∈ as, NoId a) → NoIdL as
  | [], _ => NoIdL.nil
  | a :: as, h => NoIdL.cons (h a (by simp)) (NoIdL.all fun b hb => h b (by simp [hb]))
theorem NoIdL.append {as bs : List AV} (h : NoIdL as) (k : NoIdL bs) : NoIdL (as ++ bs) := fun Γ Γ' v h1 h2 h3 => by
  have hl := h1.length
  have e1 := h1.take as.length
  have e2 := h1.drop as.length
  simp only [List.take_left, List.drop_left] at e1 e2
  have := (h Γ Γ' _ e1 h2 h3).append (k Γ Γ' _ e2 h2 h3)
  rwa [List.take_append_drop] at this
theorem NoIdL.get {as : List AV} (h : NoIdL as) {Γ Γ' : Cx} {b o : Nat} (hc : CellsAt Γ as b o) (h3 : Γ'.w = Γ.w) (h4 : ∀ b, Γ.Fz b → Γ'.Fz b) : CellsAt Γ' as b o := by
  obtain ⟨vs, q1, q2, q3, q4⟩ := hc.list
  have hr := h Γ Γ' vs q1 h3 h4
  refine CellsAt.of fun i a ha => ?_
  have hlt : i < vs.length := by rw [← hr.length]; exact (List.getElem?_eq_some_iff.1 ha).1
  have hg := hr.get i
  simp only [List.getD, ha, List.getElem?_eq_getElem hlt, Option.getD_some] at hg
  refine ⟨vs[i], ?_, q3 _ (List.getElem_mem _), hg⟩
  rw [h3]
  exact q4 i _ (List.getElem?_eq_getElem hlt)
theorem NoId.agg {as : List AV} (h : NoIdL as) : NoId (.agg as) := fun Γ Γ' v h1 h2 h3 => by
  simp only [VRel] at h1 ⊢
  obtain ⟨us, rfl, h6, h7⟩ := h1
  exact ⟨us, rfl, h Γ Γ' us h6 h2 h3, h7⟩
theorem NoId.tup {as : List AV} (h : NoIdL as) : NoId (.tup as) := fun Γ Γ' v h1 h2 h3 => by
  simp only [VRel] at h1 ⊢
  obtain ⟨us, rfl, h6⟩ := h1
  exact ⟨us, rfl, h Γ Γ' us h6 h2 h3⟩
theorem NoId.func {f : FuncId} {as : List AV} (h : NoIdL as) : NoId (.func f as) := fun Γ Γ' v h1 h2 h3 => by
  simp only [VRel] at h1 ⊢
  obtain ⟨us, rfl, h6⟩ := h1
  exact ⟨us, rfl, h Γ Γ' us h6 h2 h3⟩
theorem NoId.iface {t : TypeId} {a : AV} (h : NoId a) : NoId (.iface t a) := fun Γ Γ' v h1 h2 h3 => by
  simp only [VRel] at h1 ⊢
  obtain ⟨u, rfl, h6⟩ := h1
  exact ⟨u, rfl, h Γ Γ' u h6 h2 h3⟩
theorem NoId.fsl {as : List AV} {len : Nat} (h : NoIdL as) : NoId (.fsl as len) := fun Γ Γ' v h1 h2 h3 => by
  simp only [VRel] at h1 ⊢
  obtain ⟨b, o, c, rfl, h6, h7, h8⟩ := h1
  exact ⟨b, o, c, rfl, h6, h7.imp id (h3 b), h.get h8 h2 h3⟩
theorem NoId.fptr {as : List AV} {off : Nat} (h : NoIdL as) : NoId (.fptr as off) := fun Γ Γ' v h1 h2 h3 => by
  simp only [VRel] at h1 ⊢
  obtain ⟨b, o, rfl, h7, h8⟩ := h1
  exact ⟨b, o, rfl, h3 b h7, h.get h8 h2 h3⟩

/-- In any memory: it hands this back, and leaves the memory as it was. -/
def PC (P : Program) (f : FuncId) (xs : List AV) (r : AV) : Prop := ∀ hp, ACalls P f xs hp fun r' hp' => r' = r ∧ hp' = hp

theorem pc_of {P : Program} {f : FuncId} {xs : List AV} {r : AV} (hx : NoIdL xs) (h : ACalls P f xs [] fun r' hp' => Frz hp' r' r) : PC P f xs r := by
  intro hp
  refine ⟨h.1, fun Γ vs hh hv => ?_⟩
  have h0 : HSim { Γ with n := 0 } [] := ⟨rfl, fun i x hx => by simp at hx, fun i j x y hx => by simp at hx, hh.fz⟩
  have hv0 := hx Γ { Γ with n := 0 } vs hv rfl (fun _ h => h)
  refine Calls.mono (h.2 { Γ with n := 0 } vs h0 hv0) ?_
  rintro e w' ⟨v, r', hp0, Δ, rfl, rfl, h5, h6, h7, h8⟩
  have nolive : ∀ b, ¬ Live { Γ with n := 0 } [] b := by rintro b ⟨i, x, hi, _⟩; simp at hi
  have newFz : ∀ b, Δ.Fz b → Γ.Fz b ∨ Γ.w.heap.size ≤ b := fun b hb => (h7.fz b hb).imp id fun h => h.resolve_right (nolive b)
  have newLive : ∀ b, Live Δ hp0 b → Γ.w.heap.size ≤ b := fun b hb => (h7.live b hb).resolve_right (nolive b)
  have same : ∀ b, b < Γ.w.heap.size → Δ.w.heap[b]? = Γ.w.heap[b]? := fun b hb => h7.frame b hb (nolive b)
  let Θ : Cx := { w := Δ.w, n := Γ.n, β := Γ.β, Fz := fun b => Δ.Fz b ∨ Live Δ hp0 b }
  have le : Le Γ Θ := ⟨Nat.le_refl _, fun _ _ => rfl, fun b hb => .inl (h7.le.fz b hb), fun b hb => same b (hh.fz b hb), fun b s hs => h7.le.shape b s hs⟩
  refine ⟨v, r, hp, Θ, rfl, rfl, h8 Δ Θ v h6 h5 rfl (fun _ h => .inl h) (fun _ h => .inr h), ⟨hh.len, fun i x hi => ?_, hh.inj, fun b hb => ?_⟩, ⟨le, h7.os, h7.tape, h7.output, h7.size, fun b hb _ => same b hb, fun b hb => .inr hb, fun b hb => ?_⟩, rfl, rfl⟩
  · obtain ⟨k1, k2, k3⟩ := hh.blk i x hi
    refine ⟨BRel.le le (same _ k3) k1, fun hf => ?_, Nat.lt_of_lt_of_le k3 h7.size⟩
    rcases hf with hf | hf
    · rcases newFz _ hf with hf | hf
      · exact k2 hf
      · have : Γ.w.heap.size ≤ (Γ.β i).1 := hf
        omega
    · have : Γ.w.heap.size ≤ (Γ.β i).1 := newLive _ hf
      omega
  · rcases hb with hb | ⟨i, x, hi, rfl⟩
    · exact h6.fz b hb
    · exact (h6.blk i x hi).2.2
  · rcases hb with hb | hb
    · rcases newFz b hb with hb | hb
      · exact .inl hb
      · exact .inr (.inl hb)
    · exact .inr (.inl (newLive b hb))

/-- The same, by the function's code. -/
theorem pc_vc {P : Program} (hm : P.follows .mixedOrders = true) {hint : Nat → Nat} {f : FuncId} {g : FC} (hf : compF P hint f = some g) {xs : List AV} {r : AV} (hx : NoIdL xs) (h : vc P hint g.code (enterA g xs []) (RetQ g fun r' hp' => Frz hp' r' r)) : PC P f xs r :=
  pc_of hx (calls_vc hm hf h)

end Go.Gi
