/- What a call makes in an empty memory, it makes behind any memory. -/
import Derived.Test.YtakdhioafodhcaaGiR
set_option linter.unusedVariables false
set_option linter.unusedSimpArgs false
namespace Go.Gi
open Go

mutual
def shiftA (k : Nat) : AV → AV
  | .ptr id off => .ptr (id + k) off
  | .sl id off len sz lo ex => .sl (id + k) off len sz lo ex
  | .map id => .map (id + k)
  | .yld id => .yld (id + k)
  | .bound f cs => .bound f (shiftL k cs)
  | .fptr cs off => .fptr (shiftL k cs) off
  | .fsl cs len => .fsl (shiftL k cs) len
  | .func f cs => .func f (shiftL k cs)
  | .agg cs => .agg (shiftL k cs)
  | .tup cs => .tup (shiftL k cs)
  | .iface t a => .iface t (shiftA k a)
  | a => a
def shiftL (k : Nat) : List AV → List AV
  | [] => []
  | a :: as => shiftA k a :: shiftL k as
end
def shiftB (k : Nat) : Option Blk → Option Blk
  | some (.row e cs) => some (.row e (shiftL k cs))
  | b => b
def rowsOnly : HP → Bool
  | [] => true
  | some (.map _ _ _) :: _ => false
  | some (.iter ..) :: _ => false
  | some (.loop ..) :: _ => false
  | _ :: hp => rowsOnly hp

mutual
theorem shift_rel {Γ Δ : Cx} {k : Nat} (hw : Δ.w = Γ.w) (hn : Γ.n + k ≤ Δ.n) (hβ : ∀ i, i < Γ.n → Δ.β (i + k) = Γ.β i) (hf : ∀ b, Γ.Fz b → Δ.Fz b) : ∀ {a : AV} {v : Value}, VRel Γ a v → VRel Δ (shiftA k a) v
  | .int _ _, _, h | .bool _, _, h | .str _, _, h | .nilp, _, h | .nils, _, h | .esl, _, h | .enn, _, h | .nilm, _, h | .nilf, _, h | .nili, _, h | .unk, _, h => by simpa only [shiftA, VRel] using h
  | .ptr id off, v, h => by
    simp only [shiftA, VRel] at h ⊢
    rw [hβ id h.1]
    exact ⟨by omega, h.2⟩
  | .map id, v, h => by
    simp only [shiftA, VRel] at h ⊢
    rw [hβ id h.1]
    exact ⟨by omega, h.2⟩
  | .yld id, v, h => by
    simp only [shiftA, VRel] at h ⊢
    rw [hβ id h.1]
    exact ⟨by omega, h.2⟩
  | .bound f cs, v, h => by
    simp only [shiftA, VRel] at h ⊢
    obtain ⟨vs, h1, h2⟩ := h
    exact ⟨vs, h1, shiftL_rel hw hn hβ hf h2⟩
  | .sl id off len sz lo ex, v, h => by
    simp only [shiftA, VRel] at h ⊢
    rw [hβ id h.1, hw]
    exact ⟨by omega, h.2⟩
  | .fptr cs off, v, h => by
    simp only [shiftA, VRel] at h ⊢
    obtain ⟨b, o, h1, h2, h3⟩ := h
    exact ⟨b, o, h1, hf b h2, shiftC_rel hw hn hβ hf h3⟩
  | .fsl cs len, v, h => by
    simp only [shiftA, VRel] at h ⊢
    rcases h with ⟨h1, h2, h3⟩ | ⟨b, o, c, h1, h2, h3, h4⟩
    · subst h3
      exact .inl ⟨h1, h2, by simp only [shiftL]⟩
    · refine .inr ⟨b, o, c, h1, h2, ?_, shiftC_rel hw hn hβ hf h4⟩
      rcases h3 with rfl | h3
      · exact .inl (by simp only [shiftL])
      · exact .inr (hf b h3)
  | .func f cs, v, h => by
    simp only [shiftA, VRel] at h ⊢
    obtain ⟨vs, h1, h2⟩ := h
    exact ⟨vs, h1, shiftL_rel hw hn hβ hf h2⟩
  | .agg cs, v, h => by
    simp only [shiftA, VRel] at h ⊢
    obtain ⟨vs, h1, h2, h3⟩ := h
    exact ⟨vs, h1, shiftL_rel hw hn hβ hf h2, h3⟩
  | .tup cs, v, h => by
    simp only [shiftA, VRel] at h ⊢
    obtain ⟨vs, h1, h2⟩ := h
    exact ⟨vs, h1, shiftL_rel hw hn hβ hf h2⟩
  | .iface t a, v, h => by
    simp only [shiftA, VRel] at h ⊢
    obtain ⟨u, h1, h2⟩ := h
    exact ⟨u, h1, shift_rel hw hn hβ hf h2⟩
theorem shiftL_rel {Γ Δ : Cx} {k : Nat} (hw : Δ.w = Γ.w) (hn : Γ.n + k ≤ Δ.n) (hβ : ∀ i, i < Γ.n → Δ.β (i + k) = Γ.β i) (hf : ∀ b, Γ.Fz b → Δ.Fz b) : ∀ {as : List AV} {vs : List Value}, VRels Γ as vs → VRels Δ (shiftL k as) vs
  | [], vs, h => by simpa only [shiftL, VRels] using h
  | a :: as, vs, h => by
    simp only [shiftL, VRels] at h ⊢
    obtain ⟨u, us, h1, h2, h3⟩ := h
    exact ⟨u, us, h1, shift_rel hw hn hβ hf h2, shiftL_rel hw hn hβ hf h3⟩
theorem shiftC_rel {Γ Δ : Cx} {k : Nat} (hw : Δ.w = Γ.w) (hn : Γ.n + k ≤ Δ.n) (hβ : ∀ i, i < Γ.n → Δ.β (i + k) = Γ.β i) (hf : ∀ b, Γ.Fz b → Δ.Fz b) : ∀ {as : List AV} {b o : Nat}, CellsAt Γ as b o → CellsAt Δ (shiftL k as) b o
  | [], b, o, _ => by simp only [shiftL, CellsAt]
  | a :: as, b, o, h => by
    simp only [shiftL, CellsAt] at h ⊢
    obtain ⟨⟨v, h1, h2, h3⟩, h4⟩ := h
    exact ⟨⟨v, by rw [hw]; exact h1, h2, shift_rel hw hn hβ hf h3⟩, shiftC_rel hw hn hβ hf h4⟩
end

theorem rowsOnly_get : ∀ {hp : HP} {i : Nat} {x : Blk}, rowsOnly hp = true → hp[i]? = some (some x) → ∃ e cs, x = .row e cs
  | [], i, x, _, h => by simp at h
  | b :: hp, 0, x, hr, h => by
    simp only [List.getElem?_cons_zero, Option.some.injEq] at h
    subst h
    cases x with
    | row e cs => exact ⟨e, cs, rfl⟩
    | map es bs c => simp [rowsOnly] at hr
    | iter => simp [rowsOnly] at hr
    | loop => simp [rowsOnly] at hr
  | b :: hp, i + 1, x, hr, h => by
    simp only [List.getElem?_cons_succ] at h
    refine rowsOnly_get (hp := hp) (i := i) ?_ h
    unfold rowsOnly at hr
    split at hr
    · rename_i h0; cases h0
    · cases hr
    · cases hr
    · cases hr
    · rename_i h0; cases h0; exact hr

theorem mk_of {P : Program} {f : FuncId} {xs : List AV} {r0 : AV} {hp0 : HP} (hx : NoIdL xs) (hr : rowsOnly hp0 = true) (h : ACalls P f xs [] fun r hp' => r = r0 ∧ hp' = hp0) (hp : HP) : ACalls P f xs hp fun r hp' => r = shiftA hp.length r0 ∧ hp' = hp ++ hp0.map (shiftB hp.length) := by
  refine ⟨h.1, fun Γ vs hh hl hv => ?_⟩
  have h0 : HSim { Γ with n := 0 } [] := ⟨rfl, fun i x hx => by simp at hx, fun i j x y hx => by simp at hx, hh.fz, GOk.same hh.gl rfl fun _ h => h⟩
  have hv0 := hx Γ { Γ with n := 0 } vs hv rfl (fun _ h => h)
  refine Calls.mono (h.2 { Γ with n := 0 } vs h0 hl hv0) ?_
  rintro e w' ⟨v, r', hp', Δ, rfl, rfl, h5, h6, h7, rfl, rfl⟩
  have nolive : ∀ b, ¬ Live { Γ with n := 0 } [] b := by rintro b ⟨i, x, hi, _⟩; simp at hi
  have newFz : ∀ b, Δ.Fz b → Γ.Fz b ∨ Γ.w.heap.size ≤ b := fun b hb => (h7.fz b hb).imp id fun h => h.resolve_right (nolive b)
  have newLive : ∀ b, Live Δ hp' b → Γ.w.heap.size ≤ b := fun b hb => (h7.live b hb).resolve_right (nolive b)
  have same : ∀ b, b < Γ.w.heap.size → Δ.w.heap[b]? = Γ.w.heap[b]? := fun b hb => h7.frame b hb (nolive b)
  let Θ : Cx := { w := Δ.w, n := hp.length + hp'.length, β := fun i => if i < hp.length then Γ.β i else Δ.β (i - hp.length), Fz := Δ.Fz, lc := Γ.lc, s0 := Γ.s0 }
  have hΔn := h6.len
  have hΓn := hh.len
  have βold : ∀ i, i < hp.length → Θ.β i = Γ.β i := fun i hi => if_pos hi
  have βnew : ∀ i, Θ.β (i + hp.length) = Δ.β i := fun i => by
    show (if i + hp.length < hp.length then _ else _) = _
    rw [if_neg (by omega), Nat.add_sub_cancel]
  have le : Le Γ Θ := ⟨by show Γ.n ≤ hp.length + hp'.length; omega, fun i hi => βold i (by omega), fun b hb => h7.le.fz b hb, fun b hb => same b (hh.fz b hb), fun b s hs => h7.le.shape b s hs, rfl⟩
  have sh : ∀ {a : AV} {u : Value}, VRel Δ a u → VRel Θ (shiftA hp.length a) u := shift_rel (Γ := Δ) (Δ := Θ) (k := hp.length) rfl (by show Δ.n + hp.length ≤ hp.length + hp'.length; omega) (fun i _ => βnew i) (fun _ h => h)
  have shC : ∀ {as : List AV} {b o : Nat}, CellsAt Δ as b o → CellsAt Θ (shiftL hp.length as) b o := shiftC_rel (Γ := Δ) (Δ := Θ) (k := hp.length) rfl (by show Δ.n + hp.length ≤ hp.length + hp'.length; omega) (fun i _ => βnew i) (fun _ h => h)
  have get : ∀ (i : Nat) (x : Blk), (hp ++ hp'.map (shiftB hp.length))[i]? = some (some x) → (i < hp.length ∧ hp[i]? = some (some x)) ∨ ∃ j e cs, i = j + hp.length ∧ hp'[j]? = some (some (.row e cs)) ∧ x = .row e (shiftL hp.length cs) := by
    intro i x hi
    rw [List.getElem?_append] at hi
    split at hi
    · rename_i hlt
      exact .inl ⟨hlt, hi⟩
    · rename_i hge
      rw [List.getElem?_map] at hi
      cases hq : hp'[i - hp.length]? with
      | none => rw [hq] at hi; cases hi
      | some b =>
        rw [hq] at hi
        simp only [Option.map_some, Option.some.injEq] at hi
        cases b with
        | none => simp [shiftB] at hi
        | some y =>
          obtain ⟨e, cs, rfl⟩ := rowsOnly_get hr hq
          simp only [shiftB, Option.some.injEq] at hi
          exact .inr ⟨i - hp.length, e, cs, by omega, hq, hi.symm⟩
  refine ⟨v, _, _, Θ, rfl, rfl, sh h5, ⟨by show (hp ++ hp'.map _).length = hp.length + hp'.length; simp, fun i x hi => ?_, fun i j x y hi hj he => ?_, h6.fz, hh.gl.le le⟩, ⟨le, h7.os, h7.tape, h7.output, h7.size, fun b hb _ => same b hb, fun b hb => ?_, fun b hb => (newFz b hb).imp id .inl, rfl⟩, rfl, rfl⟩
  · rcases get i x hi with ⟨hlt, hx⟩ | ⟨j, e, cs, rfl, hq, rfl⟩
    · rw [βold i hlt]
      obtain ⟨k1, k2, k3⟩ := hh.blk i x hx
      refine ⟨BRel.le le (same _ k3) k1, fun hf => ?_, Nat.lt_of_lt_of_le k3 h7.size⟩
      rcases newFz _ hf with hf | hf
      · exact k2 hf
      · have : Γ.w.heap.size ≤ (Γ.β i).1 := hf
        omega
    · rw [βnew j]
      obtain ⟨k1, k2, k3⟩ := h6.blk j _ hq
      refine ⟨?_, k2, k3⟩
      simp only [BRel] at k1 ⊢
      exact ⟨k1.1, shC k1.2⟩
  · rcases get i x hi with ⟨hlt, hx⟩ | ⟨j1, e1, cs1, rfl, hq1, rfl⟩ <;> rcases get j y hj with ⟨hlt2, hx2⟩ | ⟨j2, e2, cs2, rfl, hq2, rfl⟩
    · rw [βold i hlt, βold j hlt2] at he
      exact hh.inj i j x y hx hx2 he
    · rw [βold i hlt, βnew j2] at he
      have h1 := (hh.blk i x hx).2.2
      have h2 : Γ.w.heap.size ≤ (Δ.β j2).1 := newLive _ ⟨j2, _, hq2, rfl⟩
      omega
    · rw [βnew j1, βold j hlt2] at he
      have h1 := (hh.blk j y hx2).2.2
      have h2 : Γ.w.heap.size ≤ (Δ.β j1).1 := newLive _ ⟨j1, _, hq1, rfl⟩
      omega
    · rw [βnew j1, βnew j2] at he
      have := h6.inj j1 j2 _ _ hq1 hq2 he
      omega
  · obtain ⟨i, x, hi, rfl⟩ := hb
    rcases get i x hi with ⟨hlt, hx⟩ | ⟨j, e, cs, rfl, hq, rfl⟩
    · rw [βold i hlt]
      exact .inr ⟨i, x, hx, rfl⟩
    · rw [βnew j]
      exact .inl (newLive _ ⟨j, _, hq, rfl⟩)

mutual
theorem shift_nid (k : Nat) : ∀ {a : AV}, nid a = true → shiftA k a = a
  | .int _ _, _ | .bool _, _ | .str _, _ | .nilp, _ | .nils, _ | .esl, _ | .enn, _ | .nilm, _ | .nilf, _ | .nili, _ | .unk, _ => by simp only [shiftA]
  | .ptr _ _, h | .sl .., h | .map _, h | .yld _, h => by simp [nid] at h
  | .bound _ cs, h => by simp only [nid] at h; simp only [shiftA, shiftL_nid k h]
  | .fptr cs _, h => by simp only [nid] at h; simp only [shiftA, shiftL_nid k h]
  | .fsl cs _, h => by simp only [nid] at h; simp only [shiftA, shiftL_nid k h]
  | .func _ cs, h => by simp only [nid] at h; simp only [shiftA, shiftL_nid k h]
  | .agg cs, h => by simp only [nid] at h; simp only [shiftA, shiftL_nid k h]
  | .tup cs, h => by simp only [nid] at h; simp only [shiftA, shiftL_nid k h]
  | .iface _ a, h => by simp only [nid] at h; simp only [shiftA, shift_nid k h]
theorem shiftL_nid (k : Nat) : ∀ {as : List AV}, nidL as = true → shiftL k as = as
  | [], _ => by simp only [shiftL]
  | a :: as, h => by
    simp only [nidL, Bool.and_eq_true] at h
    simp only [shiftL, shift_nid k h.1, shiftL_nid k h.2]
end
theorem shift_osl (k id len sz : Nat) : shiftA k (osl id len sz) = osl (id + k) len sz := by
  unfold osl
  split <;> simp only [shiftA]
theorem Enc.shift_orow {α : Type} (E : Enc α) (k : Nat) (e : TypeId) (l : List α) : shiftB k (orow l.length e (E.cs l)) = orow l.length e (E.cs l) := by
  unfold orow
  split
  · rfl
  · simp only [shiftB, shiftL_nid k (E.cs_nid l)]
theorem Enc.rows_orow {α : Type} (E : Enc α) (e : TypeId) (l : List α) (hp : HP) : rowsOnly (orow l.length e (E.cs l) :: hp) = rowsOnly hp := by
  unfold orow
  split <;> simp only [rowsOnly]

theorem mk_e {P : Program} (hm : P.follows .mixedOrders = true) {T : Tab} (hT : TabOk P T) {hint : Nat → Nat} {f : FuncId} {c : IC} {n : Nat} {rs : List RV} (hf : compF P hint f = some ⟨c, n, rs⟩) (hs : ((okS n c && noR c) && rs.all (resR n)) = true) {xs : List AV} (hl : xs.length ≤ n) (hx : NoIdL xs) {r1 r0 : AV} {hp1 hp0 : HP} (hr : rowsOnly hp0 = true)
    (h : vcE P hint T n c (start xs) [] (RetE rs fun r' hp' => r' = r1 ∧ hp' = hp1)) (hw : Weak r1 hp1 r0 hp0) (hp : HP) : ACalls P f xs hp fun r hp' => r = shiftA hp.length r0 ∧ hp' = hp ++ hp0.map (shiftB hp.length) :=
  mk_of hx hr ((calls_e hm hT hf hs hl h).weak hw) hp

end Go.Gi
