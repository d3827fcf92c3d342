/- Calls that depend on no memory, and what they hand back is never written. -/
import Derived.Test.YtakdhioafodhcaaGreatDoorGiM
set_option linter.unusedVariables false
set_option linter.unusedSimpArgs false
namespace Go.Gi
open Go

/-- What stands for a value in the first place stands for it in the second, if the world is the same, and what was never written, and all of this memory, is never written there. -/
def Frz (hp : HP) (r r' : AV) : Prop := ∀ (Δ Δ' : Cx) (v : Value), HSim Δ hp → VRel Δ r v → Δ'.w = Δ.w → (∀ b, Δ.Fz b → Δ'.Fz b) → (∀ b, Live Δ hp b → Δ'.Fz b) → VRel Δ' r' v
def FrzL (hp : HP) (r r' : List AV) : Prop := ∀ (Δ Δ' : Cx) (v : List Value), HSim Δ hp → VRels Δ r v → Δ'.w = Δ.w → (∀ b, Δ.Fz b → Δ'.Fz b) → (∀ b, Live Δ hp b → Δ'.Fz b) → VRels Δ' r' v

theorem Frz.int (hp : HP) (k : IntKind) (n : Int) : Frz hp (.int k n) (.int k n) := fun _ _ _ _ h _ _ _ => by simpa only [VRel] using h
theorem Frz.bool (hp : HP) (b : Bool) : Frz hp (.bool b) (.bool b) := fun _ _ _ _ h _ _ _ => by simpa only [VRel] using h
theorem Frz.str (hp : HP) (s : List UInt8) : Frz hp (.str s) (.str s) := fun _ _ _ _ h _ _ _ => by simpa only [VRel] using h
theorem Frz.nilp (hp : HP) : Frz hp .nilp .nilp := fun _ _ _ _ h _ _ _ => by simpa only [VRel] using h
theorem Frz.nils (hp : HP) : Frz hp .nils .nils := fun _ _ _ _ h _ _ _ => by simpa only [VRel] using h
theorem Frz.nilm (hp : HP) : Frz hp .nilm .nilm := fun _ _ _ _ h _ _ _ => by simpa only [VRel] using h
theorem Frz.nilf (hp : HP) : Frz hp .nilf .nilf := fun _ _ _ _ h _ _ _ => by simpa only [VRel] using h
theorem Frz.unk (hp : HP) : Frz hp .unk .unk := fun _ _ _ _ h _ _ _ => by simpa only [VRel] using h
theorem Frz.nili (hp : HP) : Frz hp .nili .nili := fun _ _ _ _ h _ _ _ => by simpa only [VRel] using h

theorem FrzL.nil (hp : HP) : FrzL hp [] [] := fun _ _ _ _ h _ _ _ => by simpa only [VRels] using h
theorem FrzL.cons {hp : HP} {a a' : AV} {as as' : List AV} (h : Frz hp a a') (k : FrzL hp as as') : FrzL hp (a :: as) (a' :: as') := fun Δ Δ' v h1 h2 h3 h4 h5 => by
  simp only [VRels] at h2 ⊢
  obtain ⟨u, us, rfl, h6, h7⟩ := h2
  exact ⟨u, us, rfl, h Δ Δ' u h1 h6 h3 h4 h5, k Δ Δ' us h1 h7 h3 h4 h5⟩
theorem FrzL.all {hp : HP} : ∀ {as : List AV}, (∀ a ∈ as, Frz hp a a) → FrzL hp as as
  | [], _ => FrzL.nil hp
  | a :: as, h => FrzL.cons (h a (by simp)) (FrzL.all fun b hb => h b (by simp [hb]))
theorem FrzL.get {hp : HP} {as as' : List AV} (h : FrzL hp as as') {Δ Δ' : Cx} {b o : Nat} (h1 : HSim Δ hp) (hc : CellsAt Δ as b o) (h3 : Δ'.w = Δ.w) (h4 : ∀ b, Δ.Fz b → Δ'.Fz b) (h5 : ∀ b, Live Δ hp b → Δ'.Fz b) : CellsAt Δ' as' b o := by
  obtain ⟨vs, q1, q2, q3, q4⟩ := hc.list
  have hr := h Δ Δ' vs h1 q1 h3 h4 h5
  refine CellsAt.of fun i a ha => ?_
  have hlt : i < vs.length := by rw [← hr.length]; exact (List.getElem?_eq_some_iff.1 ha).1
  have hg := hr.get i
  simp only [List.getD, ha, List.getElem?_eq_getElem hlt, Option.getD_some] at hg
  refine ⟨vs[i], ?_, q3 _ (List.getElem_mem _), hg⟩
  rw [h3]
  exact q4 i _ (List.getElem?_eq_getElem hlt)
theorem Frz.agg {hp : HP} {as as' : List AV} (h : FrzL hp as as') : Frz hp (.agg as) (.agg as') := fun Δ Δ' v h1 h2 h3 h4 h5 => by
  simp only [VRel] at h2 ⊢
  obtain ⟨us, rfl, h6, h7⟩ := h2
  exact ⟨us, rfl, h Δ Δ' us h1 h6 h3 h4 h5, h7⟩
theorem Frz.tup {hp : HP} {as as' : List AV} (h : FrzL hp as as') : Frz hp (.tup as) (.tup as') := fun Δ Δ' v h1 h2 h3 h4 h5 => by
  simp only [VRel] at h2 ⊢
  obtain ⟨us, rfl, h6⟩ := h2
  exact ⟨us, rfl, h Δ Δ' us h1 h6 h3 h4 h5⟩
theorem Frz.func {hp : HP} {f : FuncId} {as as' : List AV} (h : FrzL hp as as') : Frz hp (.func f as) (.func f as') := fun Δ Δ' v h1 h2 h3 h4 h5 => by
  simp only [VRel] at h2 ⊢
  obtain ⟨us, rfl, h6⟩ := h2
  exact ⟨us, rfl, h Δ Δ' us h1 h6 h3 h4 h5⟩
theorem Frz.iface {hp : HP} {t : TypeId} {a a' : AV} (h : Frz hp a a') : Frz hp (.iface t a) (.iface t a') := fun Δ Δ' v h1 h2 h3 h4 h5 => by
  simp only [VRel] at h2 ⊢
  obtain ⟨u, rfl, h6⟩ := h2
  exact ⟨u, rfl, h Δ Δ' u h1 h6 h3 h4 h5⟩
theorem Frz.fsl {hp : HP} {as as' : List AV} {len : Nat} (h : FrzL hp as as') : Frz hp (.fsl as len) (.fsl as' len) := fun Δ Δ' v h1 h2 h3 h4 h5 => by
  simp only [VRel] at h2 ⊢
  rcases h2 with ⟨hn, rfl, rfl⟩ | ⟨b, o, c, rfl, h6, h7, h8⟩
  · have := (h Δ Δ' [] h1 (by simp [VRels]) h3 h4 h5).length
    exact .inl ⟨hn, by simp, List.eq_nil_of_length_eq_zero this⟩
  refine .inr ⟨b, o, c, rfl, h6, ?_, h.get h1 h8 h3 h4 h5⟩
  rcases h7 with h7 | h7
  · left
    subst h7
    have := (h Δ Δ' [] h1 (by simp [VRels]) h3 h4 h5).length
    exact List.eq_nil_of_length_eq_zero this
  · exact .inr (h4 b h7)
theorem Frz.fptr {hp : HP} {as as' : List AV} {off : Nat} (h : FrzL hp as as') : Frz hp (.fptr as off) (.fptr as' off) := fun Δ Δ' v h1 h2 h3 h4 h5 => by
  simp only [VRel] at h2 ⊢
  obtain ⟨b, o, rfl, h7, h8⟩ := h2
  exact ⟨b, o, rfl, h4 b h7, h.get h1 h8 h3 h4 h5⟩
/-- Slices without elements. -/
theorem Frz.esl (hp : HP) : Frz hp .esl (.fsl [] 0) := fun _ _ _ _ h _ _ _ => by
  simp only [VRel] at h ⊢
  exact .inl ⟨h, by simp, by simp⟩
theorem Frz.enn (hp : HP) : Frz hp .enn (.fsl [] 0) := fun _ _ _ _ h _ _ _ => by
  simp only [VRel] at h ⊢
  obtain ⟨⟨b, o, sp⟩, c, rfl, hc⟩ := h
  rcases hc with rfl | hc
  · exact .inl ⟨.inr ⟨_, rfl⟩, by simp, by simp⟩
  · simp only at hc
    subst hc
    exact .inr ⟨b, o, c, rfl, Nat.zero_le _, .inl (by simp), by simp [CellsAt]⟩
theorem Frz.nils' (hp : HP) : Frz hp .nils (.fsl [] 0) := fun _ _ _ _ h _ _ _ => by
  simp only [VRel] at h ⊢
  exact .inl ⟨.inl h, by simp, by simp⟩
/-- A row of ours, which nobody writes from now on. -/
theorem Frz.sl {hp : HP} {id off len sz lo : Nat} {ex : Bool} {e : TypeId} {cs as' : List AV} (hx : hp[id]? = some (some (.row e cs))) (hl : off + len * sz ≤ cs.length) (h : FrzL hp ((cs.drop off).take (len * sz)) as') : Frz hp (.sl id off len sz lo ex) (.fsl as' len) := fun Δ Δ' v h1 h2 h3 h4 h5 => by
  simp only [VRel] at h2 ⊢
  obtain ⟨hi, o, c, e', m, rfl, ho, k1, k2, k3, k4, k5⟩ := h2
  refine .inr ⟨_, o, c, rfl, by omega, .inr (h5 _ ⟨id, _, hx, rfl⟩), ?_⟩
  exact h.get h1 (sl_cells h1 hx ho (by omega) hl) h3 h4 h5
theorem Frz.ptr {hp : HP} {id off : Nat} {e : TypeId} {cs as' : List AV} (hx : hp[id]? = some (some (.row e cs))) (h : FrzL hp cs as') : Frz hp (.ptr id off) (.fptr as' off) := fun Δ Δ' v h1 h2 h3 h4 h5 => by
  simp only [VRel] at h2 ⊢
  obtain ⟨hi, rfl⟩ := h2
  have hb := (h1.blk id _ hx).1
  simp only [BRel] at hb
  exact ⟨_, _, rfl, h5 _ ⟨id, _, hx, rfl⟩, h.get h1 hb.2 h3 h4 h5⟩

/-- It names no block of ours. -/
def NoId (x : AV) : Prop := ∀ (Γ Γ' : Cx) (v : Value), VRel Γ x v → Γ'.w = Γ.w → (∀ b, Γ.Fz b → Γ'.Fz b) → VRel Γ' x v
def NoIdL (x : List AV) : Prop := ∀ (Γ Γ' : Cx) (v : List Value), VRels Γ x v → Γ'.w = Γ.w → (∀ b, Γ.Fz b → Γ'.Fz b) → VRels Γ' x v
theorem NoId.frz {x : AV} (h : NoId x) (hp : HP) : Frz hp x x := fun Δ Δ' v _ h2 h3 h4 _ => h Δ Δ' v h2 h3 h4
theorem NoIdL.frz {x : List AV} (h : NoIdL x) (hp : HP) : FrzL hp x x := fun Δ Δ' v _ h2 h3 h4 _ => h Δ Δ' v h2 h3 h4

theorem NoId.int (k : IntKind) (n : Int) : NoId (.int k n) := fun _ _ _ h _ _ => by simpa only [VRel] using h
theorem NoId.bool (b : Bool) : NoId (.bool b) := fun _ _ _ h _ _ => by simpa only [VRel] using h
theorem NoId.str (s : List UInt8) : NoId (.str s) := fun _ _ _ h _ _ => by simpa only [VRel] using h
theorem NoId.nilp : NoId .nilp := fun _ _ _ h _ _ => by simpa only [VRel] using h
theorem NoId.nils : NoId .nils := fun _ _ _ h _ _ => by simpa only [VRel] using h
theorem NoId.nilm : NoId .nilm := fun _ _ _ h _ _ => by simpa only [VRel] using h
theorem NoId.nilf : NoId .nilf := fun _ _ _ h _ _ => by simpa only [VRel] using h
theorem NoId.unk : NoId .unk := fun _ _ _ h _ _ => by simpa only [VRel] using h
theorem NoId.nili : NoId .nili := fun _ _ _ h _ _ => by simpa only [VRel] using h
theorem NoIdL.nil : NoIdL [] := fun _ _ _ h _ _ => by simpa only [VRels] using h
theorem NoIdL.cons {a : AV} {as : List AV} (h : NoId a) (k : NoIdL as) : NoIdL (a :: as) := fun Γ Γ' v h1 h2 h3 => by
  simp only [VRels] at h1 ⊢
  obtain ⟨u, us, rfl, h6, h7⟩ := h1
  exact ⟨u, us, rfl, h Γ Γ' u h6 h2 h3, k Γ Γ' us h7 h2 h3⟩
theorem NoIdL.all : ∀ {as : List AV}, (∀ a ∈ as, NoId a) → NoIdL as
  | [], _ => NoIdL.nil
  | a :: as, h => NoIdL.cons (h a (by simp)) (NoIdL.all fun b hb => h b (by simp [hb]))
theorem NoIdL.append {as bs : List AV} (h : NoIdL as) (k : NoIdL bs) : NoIdL (as ++ bs) := fun Γ Γ' v h1 h2 h3 => by
  have hl := h1.length
  have e1 := h1.take as.length
  have e2 := h1.drop as.length
  simp only [List.take_left, List.drop_left] at e1 e2
  have := (h Γ Γ' _ e1 h2 h3).append (k Γ Γ' _ e2 h2 h3)
  rwa [List.take_append_drop] at this
theorem NoIdL.get {as : List AV} (h : NoIdL as) {Γ Γ' : Cx} {b o : Nat} (hc : CellsAt Γ as b o) (h3 : Γ'.w = Γ.w) (h4 : ∀ b, Γ.Fz b → Γ'.Fz b) : CellsAt Γ' as b o := by
  obtain ⟨vs, q1, q2, q3, q4⟩ := hc.list
  have hr := h Γ Γ' vs q1 h3 h4
  refine CellsAt.of fun i a ha => ?_
  have hlt : i < vs.length := by rw [← hr.length]; exact (List.getElem?_eq_some_iff.1 ha).1
  have hg := hr.get i
  simp only [List.getD, ha, List.getElem?_eq_getElem hlt, Option.getD_some] at hg
  refine ⟨vs[i], ?_, q3 _ (List.getElem_mem _), hg⟩
  rw [h3]
  exact q4 i _ (List.getElem?_eq_getElem hlt)
theorem NoId.agg {as : List AV} (h : NoIdL as) : NoId (.agg as) := fun Γ Γ' v h1 h2 h3 => by
  simp only [VRel] at h1 ⊢
  obtain ⟨us, rfl, h6, h7⟩ := h1
  exact ⟨us, rfl, h Γ Γ' us h6 h2 h3, h7⟩
theorem NoId.tup {as : List AV} (h : NoIdL as) : NoId (.tup as) := fun Γ Γ' v h1 h2 h3 => by
  simp only [VRel] at h1 ⊢
  obtain ⟨us, rfl, h6⟩ := h1
  exact ⟨us, rfl, h Γ Γ' us h6 h2 h3⟩
theorem NoId.func {f : FuncId} {as : List AV} (h : NoIdL as) : NoId (.func f as) := fun Γ Γ' v h1 h2 h3 => by
  simp only [VRel] at h1 ⊢
  obtain ⟨us, rfl, h6⟩ := h1
  exact ⟨us, rfl, h Γ Γ' us h6 h2 h3⟩
theorem NoId.bound {f : FuncId} {as : List AV} (h : NoIdL as) : NoId (.bound f as) := fun Γ Γ' v h1 h2 h3 => by
  simp only [VRel] at h1 ⊢
  obtain ⟨us, rfl, h6⟩ := h1
  exact ⟨us, rfl, h Γ Γ' us h6 h2 h3⟩
theorem NoId.iface {t : TypeId} {a : AV} (h : NoId a) : NoId (.iface t a) := fun Γ Γ' v h1 h2 h3 => by
  simp only [VRel] at h1 ⊢
  obtain ⟨u, rfl, h6⟩ := h1
  exact ⟨u, rfl, h Γ Γ' u h6 h2 h3⟩
theorem NoId.fsl {as : List AV} {len : Nat} (h : NoIdL as) : NoId (.fsl as len) := fun Γ Γ' v h1 h2 h3 => by
  simp only [VRel] at h1 ⊢
  rcases h1 with h1 | ⟨b, o, c, rfl, h6, h7, h8⟩
  · exact .inl h1
  exact .inr ⟨b, o, c, rfl, h6, h7.imp id (h3 b), h.get h8 h2 h3⟩
theorem NoId.esl : NoId .esl := fun _ _ _ h _ _ => by simpa only [VRel] using h
theorem NoId.enn : NoId .enn := fun _ _ _ h _ _ => by simpa only [VRel] using h
theorem NoId.fptr {as : List AV} {off : Nat} (h : NoIdL as) : NoId (.fptr as off) := fun Γ Γ' v h1 h2 h3 => by
  simp only [VRel] at h1 ⊢
  obtain ⟨b, o, rfl, h7, h8⟩ := h1
  exact ⟨b, o, rfl, h3 b h7, h.get h8 h2 h3⟩

/-- In any memory: it hands this back, and leaves the memory as it was. -/
def PC (P : Program) (f : FuncId) (xs : List AV) (r : AV) : Prop := ∀ hp, ACalls P f xs hp fun r' hp' => r' = r ∧ hp' = hp

theorem pc_of {P : Program} {f : FuncId} {xs : List AV} {r : AV} (hx : NoIdL xs) (h : ACalls P f xs [] fun r' hp' => Frz hp' r' r) : PC P f xs r := by
  intro hp
  refine ⟨h.1, fun Γ vs hh hl hv => ?_⟩
  have h0 : HSim { Γ with n := 0 } [] := ⟨rfl, fun i x hx => by simp at hx, fun i j x y hx => by simp at hx, hh.fz, GOk.same hh.gl rfl fun _ h => h⟩
  have hv0 := hx Γ { Γ with n := 0 } vs hv rfl (fun _ h => h)
  refine Calls.mono (h.2 { Γ with n := 0 } vs h0 hl hv0) ?_
  rintro e w' ⟨v, r', hp0, Δ, rfl, rfl, h5, h6, h7, h8⟩
  have nolive : ∀ b, ¬ Live { Γ with n := 0 } [] b := by rintro b ⟨i, x, hi, _⟩; simp at hi
  have newFz : ∀ b, Δ.Fz b → Γ.Fz b ∨ Γ.w.heap.size ≤ b := fun b hb => (h7.fz b hb).imp id fun h => h.resolve_right (nolive b)
  have newLive : ∀ b, Live Δ hp0 b → Γ.w.heap.size ≤ b := fun b hb => (h7.live b hb).resolve_right (nolive b)
  have same : ∀ b, b < Γ.w.heap.size → Δ.w.heap[b]? = Γ.w.heap[b]? := fun b hb => h7.frame b hb (nolive b)
  let Θ : Cx := { w := Δ.w, n := Γ.n, β := Γ.β, Fz := fun b => Δ.Fz b ∨ Live Δ hp0 b, lc := Γ.lc, s0 := Γ.s0 }
  have le : Le Γ Θ := ⟨Nat.le_refl _, fun _ _ => rfl, fun b hb => .inl (h7.le.fz b hb), fun b hb => same b (hh.fz b hb), fun b s hs => h7.le.shape b s hs, rfl⟩
  refine ⟨v, r, hp, Θ, rfl, rfl, h8 Δ Θ v h6 h5 rfl (fun _ h => .inl h) (fun _ h => .inr h), ⟨hh.len, fun i x hi => ?_, hh.inj, fun b hb => ?_, hh.gl.le le⟩, ⟨le, h7.os, h7.tape, h7.output, h7.size, fun b hb _ => same b hb, fun b hb => .inr hb, fun b hb => ?_, rfl⟩, rfl, rfl⟩
  · obtain ⟨k1, k2, k3⟩ := hh.blk i x hi
    refine ⟨BRel.le le (same _ k3) k1, fun hf => ?_, Nat.lt_of_lt_of_le k3 h7.size⟩
    rcases hf with hf | hf
    · rcases newFz _ hf with hf | hf
      · exact k2 hf
      · have : Γ.w.heap.size ≤ (Γ.β i).1 := hf
        omega
    · have : Γ.w.heap.size ≤ (Γ.β i).1 := newLive _ hf
      omega
  · rcases hb with hb | ⟨i, x, hi, rfl⟩
    · exact h6.fz b hb
    · exact (h6.blk i x hi).2.2
  · rcases hb with hb | hb
    · rcases newFz b hb with hb | hb
      · exact .inl hb
      · exact .inr (.inl hb)
    · exact .inr (.inl (newLive b hb))

/-! ### What names no block, what is plain -/
mutual
/-- It names no block of ours. -/
def nid : AV → Bool
  | .ptr _ _ | .sl .. | .map _ | .yld _ => false
  | .fptr cs _ | .fsl cs _ | .func _ cs | .agg cs | .tup cs | .bound _ cs => nidL cs
  | .iface _ a => nid a
  | _ => true
def nidL : List AV → Bool
  | [] => true
  | a :: as => nid a && nidL as
end
mutual
/-- It names no memory at all. -/
def plain : AV → Bool
  | .ptr _ _ | .sl .. | .map _ | .fptr _ _ | .yld _ => false
  | .fsl cs _ => cs.isEmpty
  | .func _ cs | .agg cs | .tup cs | .bound _ cs => plainL cs
  | .iface _ a => plain a
  | _ => true
def plainL : List AV → Bool
  | [] => true
  | a :: as => plain a && plainL as
end

mutual
theorem nid_ok : ∀ {a : AV}, nid a = true → NoId a
  | .int k n, _ => NoId.int k n
  | .bool b, _ => NoId.bool b
  | .str s, _ => NoId.str s
  | .nilp, _ => NoId.nilp
  | .nils, _ => NoId.nils
  | .esl, _ => NoId.esl
  | .enn, _ => NoId.enn
  | .nilm, _ => NoId.nilm
  | .nilf, _ => NoId.nilf
  | .nili, _ => NoId.nili
  | .unk, _ => NoId.unk
  | .fptr cs o, h => NoId.fptr (nidL_ok (by simpa only [nid] using h))
  | .fsl cs o, h => NoId.fsl (nidL_ok (by simpa only [nid] using h))
  | .func f cs, h => NoId.func (nidL_ok (by simpa only [nid] using h))
  | .agg cs, h => NoId.agg (nidL_ok (by simpa only [nid] using h))
  | .tup cs, h => NoId.tup (nidL_ok (by simpa only [nid] using h))
  | .iface t a, h => NoId.iface (nid_ok (by simpa only [nid] using h))
  | .ptr _ _, h => by simp [nid] at h
  | .sl .., h => by simp [nid] at h
  | .map _, h => by simp [nid] at h
  | .yld _, h => by simp [nid] at h
  | .bound f cs, h => NoId.bound (nidL_ok (by simpa only [nid] using h))
theorem nidL_ok : ∀ {as : List AV}, nidL as = true → NoIdL as
  | [], _ => NoIdL.nil
  | a :: as, h => by
    simp only [nidL, Bool.and_eq_true] at h
    exact NoIdL.cons (nid_ok h.1) (nidL_ok h.2)
end

mutual
theorem plain_rel {Γ Γ' : Cx} : ∀ {a : AV} {v : Value}, plain a = true → VRel Γ a v → VRel Γ' a v
  | .int k n, v, _, h => by simpa only [VRel] using h
  | .bool b, v, _, h => by simpa only [VRel] using h
  | .str s, v, _, h => by simpa only [VRel] using h
  | .nilp, v, _, h => by simpa only [VRel] using h
  | .nils, v, _, h => by simpa only [VRel] using h
  | .esl, v, _, h => by simpa only [VRel] using h
  | .enn, v, _, h => by simpa only [VRel] using h
  | .nilm, v, _, h => by simpa only [VRel] using h
  | .nilf, v, _, h => by simpa only [VRel] using h
  | .nili, v, _, h => by simpa only [VRel] using h
  | .unk, v, _, h => by simpa only [VRel] using h
  | .fptr cs o, v, hp, _ => by simp [plain] at hp
  | .ptr _ _, v, hp, _ => by simp [plain] at hp
  | .sl .., v, hp, _ => by simp [plain] at hp
  | .map _, v, hp, _ => by simp [plain] at hp
  | .yld _, v, hp, _ => by simp [plain] at hp
  | .bound f cs, v, hp, h => by
    simp only [plain] at hp
    simp only [VRel] at h ⊢
    obtain ⟨vs, h1, h2⟩ := h
    exact ⟨vs, h1, plainL_rel hp h2⟩
  | .fsl cs n, v, hp, h => by
    simp only [plain, List.isEmpty_iff] at hp
    subst hp
    simp only [VRel] at h ⊢
    exact h.imp id fun ⟨b, o, c, h1, h2, _, _⟩ => ⟨b, o, c, h1, h2, .inl (by simp), by simp [CellsAt]⟩
  | .func f cs, v, hp, h => by
    simp only [plain] at hp
    simp only [VRel] at h ⊢
    obtain ⟨vs, h1, h2⟩ := h
    exact ⟨vs, h1, plainL_rel hp h2⟩
  | .agg cs, v, hp, h => by
    simp only [plain] at hp
    simp only [VRel] at h ⊢
    obtain ⟨vs, h1, h2, h3⟩ := h
    exact ⟨vs, h1, plainL_rel hp h2, h3⟩
  | .tup cs, v, hp, h => by
    simp only [plain] at hp
    simp only [VRel] at h ⊢
    obtain ⟨vs, h1, h2⟩ := h
    exact ⟨vs, h1, plainL_rel hp h2⟩
  | .iface t a, v, hp, h => by
    simp only [plain] at hp
    simp only [VRel] at h ⊢
    obtain ⟨u, h1, h2⟩ := h
    exact ⟨u, h1, plain_rel hp h2⟩
theorem plainL_rel {Γ Γ' : Cx} : ∀ {as : List AV} {vs : List Value}, plainL as = true → VRels Γ as vs → VRels Γ' as vs
  | [], vs, _, h => by simpa only [VRels] using h
  | a :: as, vs, hp, h => by
    simp only [plainL, Bool.and_eq_true] at hp
    simp only [VRels] at h ⊢
    obtain ⟨u, us, h1, h2, h3⟩ := h
    exact ⟨u, us, h1, plain_rel hp.1 h2, plainL_rel hp.2 h3⟩
end

/-! ### All that is ours, taken for frozen -/
mutual
def frz (hp : HP) : AV → Option AV
  | .nils | .esl | .enn => some (.fsl [] 0)
  | .sl id off len sz _ _ => match hp[id]? with
    | some (some (.row _ cs)) => if (decide (off + len * sz ≤ cs.length) && nidL cs) = true then some (.fsl ((cs.drop off).take (len * sz)) len) else none
    | _ => none
  | .ptr id off => match hp[id]? with
    | some (some (.row _ cs)) => if nidL cs = true then some (.fptr cs off) else none
    | _ => none
  | .map _ => none
  | .yld _ => none
  | .bound f cs => if nidL cs = true then some (.bound f cs) else none
  | .fsl cs len => if nidL cs = true then some (.fsl cs len) else none
  | .fptr cs off => if nidL cs = true then some (.fptr cs off) else none
  | .func f cs => match frzL hp cs with
    | some cs' => some (.func f cs')
    | none => none
  | .agg cs => match frzL hp cs with
    | some cs' => some (.agg cs')
    | none => none
  | .tup cs => match frzL hp cs with
    | some cs' => some (.tup cs')
    | none => none
  | .iface t a => match frz hp a with
    | some a' => some (.iface t a')
    | none => none
  | a => some a
def frzL (hp : HP) : List AV → Option (List AV)
  | [] => some []
  | a :: as => match frz hp a, frzL hp as with
    | some a', some as' => some (a' :: as')
    | _, _ => none
end

theorem nidL_take {as : List AV} (h : nidL as = true) (n : Nat) : nidL (as.take n) = true := by
  induction as generalizing n with
  | nil => simp [nidL]
  | cons a as ih =>
    cases n with
    | zero => simp [nidL]
    | succ n =>
      simp only [nidL, Bool.and_eq_true, List.take_succ_cons] at h ⊢
      exact ⟨h.1, ih h.2 n⟩
theorem nidL_drop {as : List AV} (h : nidL as = true) (n : Nat) : nidL (as.drop n) = true := by
  induction as generalizing n with
  | nil => simp [nidL]
  | cons a as ih =>
    cases n with
    | zero => simpa using h
    | succ n =>
      simp only [nidL, Bool.and_eq_true] at h
      simpa using ih h.2 n

mutual
theorem frz_ok {hp : HP} : ∀ {a a' : AV}, frz hp a = some a' → Frz hp a a'
  | .nils, _, h => by simp only [frz, Option.some.injEq] at h; subst h; exact Frz.nils' hp
  | .esl, _, h => by simp only [frz, Option.some.injEq] at h; subst h; exact Frz.esl hp
  | .enn, _, h => by simp only [frz, Option.some.injEq] at h; subst h; exact Frz.enn hp
  | .int k n, _, h => by simp only [frz, Option.some.injEq] at h; subst h; exact Frz.int hp k n
  | .bool b, _, h => by simp only [frz, Option.some.injEq] at h; subst h; exact Frz.bool hp b
  | .str s, _, h => by simp only [frz, Option.some.injEq] at h; subst h; exact Frz.str hp s
  | .nilp, _, h => by simp only [frz, Option.some.injEq] at h; subst h; exact Frz.nilp hp
  | .nilm, _, h => by simp only [frz, Option.some.injEq] at h; subst h; exact Frz.nilm hp
  | .nilf, _, h => by simp only [frz, Option.some.injEq] at h; subst h; exact Frz.nilf hp
  | .nili, _, h => by simp only [frz, Option.some.injEq] at h; subst h; exact Frz.nili hp
  | .unk, _, h => by simp only [frz, Option.some.injEq] at h; subst h; exact Frz.unk hp
  | .map _, _, h => by simp [frz] at h
  | .yld _, _, h => by simp [frz] at h
  | .bound f cs, _, h => by
    simp only [frz] at h
    split at h
    · rename_i hc
      simp only [Option.some.injEq] at h
      subst h
      exact (NoId.bound (nidL_ok hc)).frz hp
    · cases h
  | .sl id off len sz lo ex, _, h => by
    simp only [frz] at h
    split at h
    · rename_i e cs hx
      split at h
      · rename_i hc
        simp only [Bool.and_eq_true, decide_eq_true_eq] at hc
        simp only [Option.some.injEq] at h
        subst h
        exact Frz.sl hx hc.1 ((nidL_ok (nidL_take (nidL_drop hc.2 _) _)).frz hp)
      · cases h
    · cases h
  | .ptr id off, _, h => by
    simp only [frz] at h
    split at h
    · rename_i e cs hx
      split at h
      · rename_i hc
        simp only [Option.some.injEq] at h
        subst h
        exact Frz.ptr hx ((nidL_ok hc).frz hp)
      · cases h
    · cases h
  | .fsl cs len, _, h => by
    simp only [frz] at h
    split at h
    · rename_i hc
      simp only [Option.some.injEq] at h
      subst h
      exact Frz.fsl ((nidL_ok hc).frz hp)
    · cases h
  | .fptr cs len, _, h => by
    simp only [frz] at h
    split at h
    · rename_i hc
      simp only [Option.some.injEq] at h
      subst h
      exact Frz.fptr ((nidL_ok hc).frz hp)
    · cases h
  | .func f cs, _, h => by
    simp only [frz] at h
    split at h
    · rename_i cs' hc
      simp only [Option.some.injEq] at h
      subst h
      exact Frz.func (frzL_ok hc)
    · cases h
  | .agg cs, _, h => by
    simp only [frz] at h
    split at h
    · rename_i cs' hc
      simp only [Option.some.injEq] at h
      subst h
      exact Frz.agg (frzL_ok hc)
    · cases h
  | .tup cs, _, h => by
    simp only [frz] at h
    split at h
    · rename_i cs' hc
      simp only [Option.some.injEq] at h
      subst h
      exact Frz.tup (frzL_ok hc)
    · cases h
  | .iface t a, _, h => by
    simp only [frz] at h
    split at h
    · rename_i cs' hc
      simp only [Option.some.injEq] at h
      subst h
      exact Frz.iface (frz_ok hc)
    · cases h
theorem frzL_ok {hp : HP} : ∀ {as as' : List AV}, frzL hp as = some as' → FrzL hp as as'
  | [], _, h => by simp only [frzL, Option.some.injEq] at h; subst h; exact FrzL.nil hp
  | a :: as, _, h => by
    simp only [frzL] at h
    split at h
    · rename_i a' as' h1 h2
      simp only [Option.some.injEq] at h
      subst h
      exact FrzL.cons (frz_ok h1) (frzL_ok h2)
    · cases h
end

mutual
/-- What names no block of ours is the same in any memory. -/
theorem frz_nid {hp hp2 : HP} : ∀ {a : AV}, nid a = true → frz hp a = frz hp2 a
  | .nils, _ | .esl, _ | .enn, _ | .int _ _, _ | .bool _, _ | .str _, _ | .nilp, _ | .nilm, _ | .nilf, _ | .nili, _ | .unk, _ | .fsl _ _, _ | .fptr _ _, _ | .map _, _ | .yld _, _ | .bound _ _, _ => by simp only [frz]
  | .sl .., h | .ptr _ _, h => by simp [nid] at h
  | .func f cs, h => by simp only [nid] at h; simp only [frz, frzL_nid (hp := hp) (hp2 := hp2) h]
  | .agg cs, h => by simp only [nid] at h; simp only [frz, frzL_nid (hp := hp) (hp2 := hp2) h]
  | .tup cs, h => by simp only [nid] at h; simp only [frz, frzL_nid (hp := hp) (hp2 := hp2) h]
  | .iface t a, h => by simp only [nid] at h; simp only [frz, frz_nid (hp := hp) (hp2 := hp2) h]
theorem frzL_nid {hp hp2 : HP} : ∀ {as : List AV}, nidL as = true → frzL hp as = frzL hp2 as
  | [], _ => rfl
  | a :: as, h => by
    simp only [nidL, Bool.and_eq_true] at h
    simp only [frzL, frz_nid (hp := hp) (hp2 := hp2) h.1, frzL_nid (hp := hp) (hp2 := hp2) h.2]
end

/-! ### Results in memory of their own -/
/-- In any memory: it hands this back, in memory that the call made, and leaves the memory as it was. -/
def PCF (P : Program) (f : FuncId) (xs : List AV) (r : AV) : Prop :=
  (∃ fn, P.funcs[f]? = some fn ∧ (fn.name == "runtime.NumGoroutine") = false ∧ fn.body.isNone = false) ∧
  ∀ (hp : HP) (Γ : Cx) (vs : List Value), HSim Γ hp → Γ.lc = lcP P → VRels Γ xs vs → Calls P f ⟨vs⟩ Γ.w fun e w' => ∃ v Δ, e = .returned v ∧ Δ.w = w' ∧ VRel ⟨Δ.w, 0, fun _ => (0, 0), fun b => Γ.w.heap.size ≤ b ∧ Δ.Fz b, Δ.lc, Δ.s0⟩ r v ∧ HSim Δ hp ∧ Ev Γ hp Δ hp

theorem PC.fresh {P : Program} {f : FuncId} {xs : List AV} {r : AV} (h : PC P f xs r) (hr : plain r = true) : PCF P f xs r :=
  ⟨(h []).1, fun hp Γ vs hh hl hv => Calls.mono ((h hp).2 Γ vs hh hl hv) fun e w' ⟨v, r', hp', Δ, h1, h2, h3, h4, h5, h6, h7⟩ => by
    subst h6; subst h7
    exact ⟨v, Δ, h1, h2, plain_rel hr h3, h4, h5⟩⟩

/-- Its rows are all new; they are taken for frozen from here on. -/
def FrzN (hp : HP) (r r' : AV) : Prop := ∀ (Δ Δ' : Cx) (v : Value), HSim Δ hp → VRel Δ r v → Δ'.w = Δ.w → (∀ b, Live Δ hp b → Δ'.Fz b) → VRel Δ' r' v

theorem pcf_of {P : Program} {f : FuncId} {xs : List AV} {r : AV} (hx : NoIdL xs) (h : ACalls P f xs [] fun r' hp' => FrzN hp' r' r) : PCF P f xs r := by
  refine ⟨h.1, fun hp Γ vs hh hl hv => ?_⟩
  have h0 : HSim { Γ with n := 0 } [] := ⟨rfl, fun i x hx => by simp at hx, fun i j x y hx => by simp at hx, hh.fz, GOk.same hh.gl rfl fun _ h => h⟩
  have hv0 := hx Γ { Γ with n := 0 } vs hv rfl (fun _ h => h)
  refine Calls.mono (h.2 { Γ with n := 0 } vs h0 hl hv0) ?_
  rintro e w' ⟨v, r', hp0, Δ, rfl, rfl, h5, h6, h7, h8⟩
  have nolive : ∀ b, ¬ Live { Γ with n := 0 } [] b := by rintro b ⟨i, x, hi, _⟩; simp at hi
  have newFz : ∀ b, Δ.Fz b → Γ.Fz b ∨ Γ.w.heap.size ≤ b := fun b hb => (h7.fz b hb).imp id fun h => h.resolve_right (nolive b)
  have newLive : ∀ b, Live Δ hp0 b → Γ.w.heap.size ≤ b := fun b hb => (h7.live b hb).resolve_right (nolive b)
  have same : ∀ b, b < Γ.w.heap.size → Δ.w.heap[b]? = Γ.w.heap[b]? := fun b hb => h7.frame b hb (nolive b)
  let Θ : Cx := { w := Δ.w, n := Γ.n, β := Γ.β, Fz := fun b => Δ.Fz b ∨ Live Δ hp0 b, lc := Γ.lc, s0 := Γ.s0 }
  have le : Le Γ Θ := ⟨Nat.le_refl _, fun _ _ => rfl, fun b hb => .inl (h7.le.fz b hb), fun b hb => same b (hh.fz b hb), fun b s hs => h7.le.shape b s hs, rfl⟩
  refine ⟨v, Θ, rfl, rfl, h8 Δ _ v h6 h5 rfl (fun b hb => ⟨newLive b hb, .inr hb⟩), ⟨hh.len, fun i x hi => ?_, hh.inj, fun b hb => ?_, hh.gl.le le⟩, ⟨le, h7.os, h7.tape, h7.output, h7.size, fun b hb _ => same b hb, fun b hb => .inr hb, fun b hb => ?_, rfl⟩⟩
  · obtain ⟨k1, k2, k3⟩ := hh.blk i x hi
    refine ⟨BRel.le le (same _ k3) k1, fun hf => ?_, Nat.lt_of_lt_of_le k3 h7.size⟩
    rcases hf with hf | hf
    · rcases newFz _ hf with hf | hf
      · exact k2 hf
      · have : Γ.w.heap.size ≤ (Γ.β i).1 := hf
        omega
    · have : Γ.w.heap.size ≤ (Γ.β i).1 := newLive _ hf
      omega
  · rcases hb with hb | ⟨i, x, hi, rfl⟩
    · exact h6.fz b hb
    · exact (h6.blk i x hi).2.2
  · rcases hb with hb | hb
    · rcases newFz b hb with hb | hb
      · exact .inl hb
      · exact .inr (.inl hb)
    · exact .inr (.inl (newLive b hb))

/-- A call that only reads: what is ours is taken for frozen while it lasts. -/
theorem PCF.view {P : Program} {f : FuncId} {xs ys : List AV} {r : AV} (h : PCF P f xs r) {hp : HP} (hy : FrzL hp ys xs) : ACalls P f ys hp fun r' hp' => r' = r ∧ hp' = hp := by
  refine ⟨h.1, fun Γ vs hh hl hv => ?_⟩
  let Γ1 : Cx := { w := Γ.w, n := 0, β := Γ.β, Fz := fun b => Γ.Fz b ∨ Live Γ hp b, lc := Γ.lc, s0 := Γ.s0 }
  have h0 : HSim Γ1 [] := ⟨rfl, fun i x hx => by simp at hx, fun i j x y hx => by simp at hx, fun b hb => by
    rcases hb with hb | ⟨i, x, hi, rfl⟩
    · exact hh.fz b hb
    · exact (hh.blk i x hi).2.2, GOk.same hh.gl rfl fun b hb => .inl hb⟩
  have hv0 : VRels Γ1 xs vs := hy Γ Γ1 vs hh hv rfl (fun b hb => .inl hb) (fun b hb => .inr hb)
  refine Calls.mono (h.2 [] Γ1 vs h0 hl hv0) ?_
  rintro e w' ⟨v, Δ, rfl, rfl, h5, h6, h7⟩
  have nolive : ∀ b, ¬ Live Γ1 [] b := by rintro b ⟨i, x, hi, _⟩; simp at hi
  have same : ∀ b, b < Γ.w.heap.size → Δ.w.heap[b]? = Γ.w.heap[b]? := fun b hb => h7.frame b hb (nolive b)
  let Θ : Cx := { w := Δ.w, n := Γ.n, β := Γ.β, Fz := fun b => Γ.Fz b ∨ (Γ.w.heap.size ≤ b ∧ Δ.Fz b), lc := Γ.lc, s0 := Γ.s0 }
  have le : Le Γ Θ := ⟨Nat.le_refl _, fun _ _ => rfl, fun b hb => .inl hb, fun b hb => same b (hh.fz b hb), fun b s hs => h7.le.shape b s hs, rfl⟩
  have le0 : Le ⟨Δ.w, 0, fun _ => (0, 0), fun b => Γ1.w.heap.size ≤ b ∧ Δ.Fz b, Δ.lc, Δ.s0⟩ Θ := ⟨Nat.zero_le _, fun i hi => absurd hi (Nat.not_lt_zero i), fun b hb => .inr hb, fun b hb => rfl, fun b s hs => hs, h7.le.lc.symm⟩
  refine ⟨v, r, hp, Θ, rfl, rfl, VRel.le le0 h5, ⟨hh.len, fun i x hi => ?_, hh.inj, fun b hb => ?_, hh.gl.le le⟩, ⟨le, h7.os, h7.tape, h7.output, h7.size, fun b hb _ => same b hb, fun b hb => .inr hb, fun b hb => ?_, rfl⟩, rfl, rfl⟩
  · obtain ⟨k1, k2, k3⟩ := hh.blk i x hi
    refine ⟨BRel.le le (same _ k3) k1, fun hf => ?_, Nat.lt_of_lt_of_le k3 h7.size⟩
    rcases hf with hf | hf
    · exact k2 hf
    · have : Γ.w.heap.size ≤ (Γ.β i).1 := hf.1
      omega
  · rcases hb with hb | hb
    · exact Nat.lt_of_lt_of_le (hh.fz b hb) h7.size
    · exact h6.fz b hb.2
  · rcases hb with hb | hb
    · exact .inl hb
    · exact .inr (.inl hb.1)

mutual
/-- A result, in memory of its own. -/
def fresh (hp : HP) : AV → Option AV
  | .nils | .esl | .enn => some (.fsl [] 0)
  | .sl id off len sz _ _ => match hp[id]? with
    | some (some (.row _ cs)) => if (decide (off + len * sz ≤ cs.length) && plainL cs) = true then some (.fsl ((cs.drop off).take (len * sz)) len) else none
    | _ => none
  | .ptr id off => match hp[id]? with
    | some (some (.row _ cs)) => if plainL cs = true then some (.fptr cs off) else none
    | _ => none
  | .func f cs => match freshL hp cs with
    | some cs' => some (.func f cs')
    | none => none
  | .agg cs => match freshL hp cs with
    | some cs' => some (.agg cs')
    | none => none
  | .tup cs => match freshL hp cs with
    | some cs' => some (.tup cs')
    | none => none
  | .iface t a => match fresh hp a with
    | some a' => some (.iface t a')
    | none => none
  | a => if plain a = true then some a else none
def freshL (hp : HP) : List AV → Option (List AV)
  | [] => some []
  | a :: as => match fresh hp a, freshL hp as with
    | some a', some as' => some (a' :: as')
    | _, _ => none
end

theorem cells_plain {Γ Γ' : Cx} (hw : Γ'.w = Γ.w) : ∀ {as : List AV} {b o : Nat}, plainL as = true → CellsAt Γ as b o → CellsAt Γ' as b o
  | [], b, o, _, _ => by simp [CellsAt]
  | a :: as, b, o, hp, h => by
    simp only [plainL, Bool.and_eq_true] at hp
    simp only [CellsAt] at h ⊢
    obtain ⟨⟨v, h1, h2, h3⟩, h4⟩ := h
    exact ⟨⟨v, by rw [hw]; exact h1, h2, plain_rel hp.1 h3⟩, cells_plain hw hp.2 h4⟩
theorem plainL_take {as : List AV} (h : plainL as = true) (n : Nat) : plainL (as.take n) = true := by
  induction as generalizing n with
  | nil => simp [plainL]
  | cons a as ih =>
    cases n with
    | zero => simp [plainL]
    | succ n =>
      simp only [plainL, Bool.and_eq_true, List.take_succ_cons] at h ⊢
      exact ⟨h.1, ih h.2 n⟩
theorem plainL_drop {as : List AV} (h : plainL as = true) (n : Nat) : plainL (as.drop n) = true := by
  induction as generalizing n with
  | nil => simp [plainL]
  | cons a as ih =>
    cases n with
    | zero => simpa using h
    | succ n =>
      simp only [plainL, Bool.and_eq_true] at h
      simpa using ih h.2 n

theorem FrzN.plain {hp : HP} {a : AV} (h : Gi.plain a = true) : FrzN hp a a := fun _ _ _ _ h2 _ _ => plain_rel h h2

mutual
theorem fresh_ok {hp : HP} : ∀ {a a' : AV}, fresh hp a = some a' → FrzN hp a a'
  | .nils, _, h => by
    simp only [fresh, Option.some.injEq] at h
    subst h
    intro Δ Δ' v _ h2 _ _
    simp only [VRel] at h2 ⊢
    exact .inl ⟨.inl h2, by simp, by simp⟩
  | .esl, _, h => by
    simp only [fresh, Option.some.injEq] at h
    subst h
    intro Δ Δ' v _ h2 _ _
    simp only [VRel] at h2 ⊢
    exact .inl ⟨h2, by simp, by simp⟩
  | .enn, _, h => by
    simp only [fresh, Option.some.injEq] at h
    subst h
    intro Δ Δ' v _ h2 _ _
    simp only [VRel] at h2 ⊢
    obtain ⟨⟨b, o, sp⟩, c, rfl, hc⟩ := h2
    rcases hc with rfl | hc
    · exact .inl ⟨.inr ⟨_, rfl⟩, by simp, by simp⟩
    · simp only at hc
      subst hc
      exact .inr ⟨b, o, c, rfl, Nat.zero_le _, .inl (by simp), by simp [CellsAt]⟩
  | .sl id off len sz lo ex, _, h => by
    simp only [fresh] at h
    split at h
    · rename_i e cs hx
      split at h
      · rename_i hc
        simp only [Bool.and_eq_true, decide_eq_true_eq] at hc
        simp only [Option.some.injEq] at h
        subst h
        intro Δ Δ' v h1 h2 h3 h5
        simp only [VRel] at h2 ⊢
        obtain ⟨hi, o, c, e', m, rfl, ho, k1, k2, k3, k4, k5⟩ := h2
        refine .inr ⟨_, o, c, rfl, by omega, .inr (h5 _ ⟨id, _, hx, rfl⟩), ?_⟩
        exact cells_plain h3 (plainL_take (plainL_drop hc.2 _) _) (sl_cells h1 hx ho (by omega) hc.1)
      · cases h
    · cases h
  | .ptr id off, _, h => by
    simp only [fresh] at h
    split at h
    · rename_i e cs hx
      split at h
      · rename_i hc
        simp only [Option.some.injEq] at h
        subst h
        intro Δ Δ' v h1 h2 h3 h5
        simp only [VRel] at h2 ⊢
        obtain ⟨hi, rfl⟩ := h2
        have hb := (h1.blk id _ hx).1
        simp only [BRel] at hb
        exact ⟨_, _, rfl, h5 _ ⟨id, _, hx, rfl⟩, cells_plain h3 hc hb.2⟩
      · cases h
    · cases h
  | .func f cs, _, h => by
    simp only [fresh] at h
    split at h
    · rename_i cs' hc
      simp only [Option.some.injEq] at h
      subst h
      intro Δ Δ' v h1 h2 h3 h5
      simp only [VRel] at h2 ⊢
      obtain ⟨us, rfl, h6⟩ := h2
      exact ⟨us, rfl, freshL_ok hc Δ Δ' us h1 h6 h3 h5⟩
    · cases h
  | .agg cs, _, h => by
    simp only [fresh] at h
    split at h
    · rename_i cs' hc
      simp only [Option.some.injEq] at h
      subst h
      intro Δ Δ' v h1 h2 h3 h5
      simp only [VRel] at h2 ⊢
      obtain ⟨us, rfl, h6, h7⟩ := h2
      exact ⟨us, rfl, freshL_ok hc Δ Δ' us h1 h6 h3 h5, h7⟩
    · cases h
  | .tup cs, _, h => by
    simp only [fresh] at h
    split at h
    · rename_i cs' hc
      simp only [Option.some.injEq] at h
      subst h
      intro Δ Δ' v h1 h2 h3 h5
      simp only [VRel] at h2 ⊢
      obtain ⟨us, rfl, h6⟩ := h2
      exact ⟨us, rfl, freshL_ok hc Δ Δ' us h1 h6 h3 h5⟩
    · cases h
  | .iface t a, _, h => by
    simp only [fresh] at h
    split at h
    · rename_i cs' hc
      simp only [Option.some.injEq] at h
      subst h
      intro Δ Δ' v h1 h2 h3 h5
      simp only [VRel] at h2 ⊢
      obtain ⟨u, rfl, h6⟩ := h2
      exact ⟨u, rfl, fresh_ok hc Δ Δ' u h1 h6 h3 h5⟩
    · cases h
  | .int _ _, _, h | .bool _, _, h | .str _, _, h | .nilp, _, h | .nilm, _, h | .nilf, _, h | .nili, _, h | .unk, _, h | .map _, _, h | .yld _, _, h | .bound _ _, _, h | .fsl _ _, _, h | .fptr _ _, _, h => by
    simp only [fresh] at h
    split at h
    · rename_i hc
      simp only [Option.some.injEq] at h
      subst h
      exact FrzN.plain hc
    · cases h
theorem freshL_ok {hp : HP} : ∀ {as as' : List AV}, freshL hp as = some as' → ∀ (Δ Δ' : Cx) (vs : List Value), HSim Δ hp → VRels Δ as vs → Δ'.w = Δ.w → (∀ b, Live Δ hp b → Δ'.Fz b) → VRels Δ' as' vs
  | [], _, h, Δ, Δ', vs, _, h2, _, _ => by
    simp only [freshL, Option.some.injEq] at h
    subst h
    simpa only [VRels] using h2
  | a :: as, _, h, Δ, Δ', vs, h1, h2, h3, h5 => by
    simp only [freshL] at h
    split at h
    · rename_i a' as' k1 k2
      simp only [Option.some.injEq] at h
      subst h
      simp only [VRels] at h2 ⊢
      obtain ⟨u, us, rfl, h6, h7⟩ := h2
      exact ⟨u, us, rfl, fresh_ok k1 Δ Δ' u h1 h6 h3 h5, freshL_ok k2 Δ Δ' us h1 h7 h3 h5⟩
    · cases h
end

end Go.Gi
