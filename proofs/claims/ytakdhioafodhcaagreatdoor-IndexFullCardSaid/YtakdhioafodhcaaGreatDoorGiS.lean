/- What a call makes in an empty memory, it makes behind any memory. -/
import Derived.Test.YtakdhioafodhcaaGreatDoorGiR
set_option linter.unusedVariables false
set_option linter.unusedSimpArgs false
namespace Go.Gi
open Go

mutual
def shiftA (k : Nat) : AV → AV
  | .ptr id off => .ptr (id + k) off
  | .sl id off len sz lo ex => .sl (id + k) off len sz lo ex
  | .map id => .map (id + k)
  | .yld id => .yld (id + k)
  | .bound f cs => .bound f (shiftL k cs)
  | .fptr cs off => .fptr (shiftL k cs) off
  | .fsl cs len => .fsl (shiftL k cs) len
  | .func f cs => .func f (shiftL k cs)
  | .agg cs => .agg (shiftL k cs)
  | .tup cs => .tup (shiftL k cs)
  | .iface t a => .iface t (shiftA k a)
  | a => a
def shiftL (k : Nat) : List AV → List AV
  | [] => []
  | a :: as => shiftA k a :: shiftL k as
end
mutual
theorem shift_rel {Γ Δ : Cx} {k : Nat} (hw : Δ.w = Γ.w) (hn : Γ.n + k ≤ Δ.n) (hβ : ∀ i, i < Γ.n → Δ.β (i + k) = Γ.β i) (hf : ∀ b, Γ.Fz b → Δ.Fz b) : ∀ {a : AV} {v : Value}, VRel Γ a v → VRel Δ (shiftA k a) v
  | .int _ _, _, h | .bool _, _, h | .str _, _, h | .nilp, _, h | .nils, _, h | .esl, _, h | .enn, _, h | .nilm, _, h | .nilf, _, h | .nili, _, h | .unk, _, h => by simpa only [shiftA, VRel] using h
  | .ptr id off, v, h => by
    simp only [shiftA, VRel] at h ⊢
    rw [hβ id h.1]
    exact ⟨by omega, h.2⟩
  | .map id, v, h => by
    simp only [shiftA, VRel] at h ⊢
    rw [hβ id h.1]
    exact ⟨by omega, h.2⟩
  | .yld id, v, h => by
    simp only [shiftA, VRel] at h ⊢
    rw [hβ id h.1]
    exact ⟨by omega, h.2⟩
  | .bound f cs, v, h => by
    simp only [shiftA, VRel] at h ⊢
    obtain ⟨vs, h1, h2⟩ := h
    exact ⟨vs, h1, shiftL_rel hw hn hβ hf h2⟩
  | .sl id off len sz lo ex, v, h => by
    simp only [shiftA, VRel] at h ⊢
    rw [hβ id h.1, hw]
    exact ⟨by omega, h.2⟩
  | .fptr cs off, v, h => by
    simp only [shiftA, VRel] at h ⊢
    obtain ⟨b, o, h1, h2, h3⟩ := h
    exact ⟨b, o, h1, hf b h2, shiftC_rel hw hn hβ hf h3⟩
  | .fsl cs len, v, h => by
    simp only [shiftA, VRel] at h ⊢
    rcases h with ⟨h1, h2, h3⟩ | ⟨b, o, c, h1, h2, h3, h4⟩
    · subst h3
      exact .inl ⟨h1, h2, by simp only [shiftL]⟩
    · refine .inr ⟨b, o, c, h1, h2, ?_, shiftC_rel hw hn hβ hf h4⟩
      rcases h3 with rfl | h3
      · exact .inl (by simp only [shiftL])
      · exact .inr (hf b h3)
  | .func f cs, v, h => by
    simp only [shiftA, VRel] at h ⊢
    obtain ⟨vs, h1, h2⟩ := h
    exact ⟨vs, h1, shiftL_rel hw hn hβ hf h2⟩
  | .agg cs, v, h => by
    simp only [shiftA, VRel] at h ⊢
    obtain ⟨vs, h1, h2, h3⟩ := h
    exact ⟨vs, h1, shiftL_rel hw hn hβ hf h2, h3⟩
  | .tup cs, v, h => by
    simp only [shiftA, VRel] at h ⊢
    obtain ⟨vs, h1, h2⟩ := h
    exact ⟨vs, h1, shiftL_rel hw hn hβ hf h2⟩
  | .iface t a, v, h => by
    simp only [shiftA, VRel] at h ⊢
    obtain ⟨u, h1, h2⟩ := h
    exact ⟨u, h1, shift_rel hw hn hβ hf h2⟩
theorem shiftL_rel {Γ Δ : Cx} {k : Nat} (hw : Δ.w = Γ.w) (hn : Γ.n + k ≤ Δ.n) (hβ : ∀ i, i < Γ.n → Δ.β (i + k) = Γ.β i) (hf : ∀ b, Γ.Fz b → Δ.Fz b) : ∀ {as : List AV} {vs : List Value}, VRels Γ as vs → VRels Δ (shiftL k as) vs
  | [], vs, h => by simpa only [shiftL, VRels] using h
  | a :: as, vs, h => by
    simp only [shiftL, VRels] at h ⊢
    obtain ⟨u, us, h1, h2, h3⟩ := h
    exact ⟨u, us, h1, shift_rel hw hn hβ hf h2, shiftL_rel hw hn hβ hf h3⟩
theorem shiftC_rel {Γ Δ : Cx} {k : Nat} (hw : Δ.w = Γ.w) (hn : Γ.n + k ≤ Δ.n) (hβ : ∀ i, i < Γ.n → Δ.β (i + k) = Γ.β i) (hf : ∀ b, Γ.Fz b → Δ.Fz b) : ∀ {as : List AV} {b o : Nat}, CellsAt Γ as b o → CellsAt Δ (shiftL k as) b o
  | [], b, o, _ => by simp only [shiftL, CellsAt]
  | a :: as, b, o, h => by
    simp only [shiftL, CellsAt] at h ⊢
    obtain ⟨⟨v, h1, h2, h3⟩, h4⟩ := h
    exact ⟨⟨v, by rw [hw]; exact h1, h2, shift_rel hw hn hβ hf h3⟩, shiftC_rel hw hn hβ hf h4⟩
end

mutual
theorem shift_nid (k : Nat) : ∀ {a : AV}, nid a = true → shiftA k a = a
  | .int _ _, _ | .bool _, _ | .str _, _ | .nilp, _ | .nils, _ | .esl, _ | .enn, _ | .nilm, _ | .nilf, _ | .nili, _ | .unk, _ => by simp only [shiftA]
  | .ptr _ _, h | .sl .., h | .map _, h | .yld _, h => by simp [nid] at h
  | .bound _ cs, h => by simp only [nid] at h; simp only [shiftA, shiftL_nid k h]
  | .fptr cs _, h => by simp only [nid] at h; simp only [shiftA, shiftL_nid k h]
  | .fsl cs _, h => by simp only [nid] at h; simp only [shiftA, shiftL_nid k h]
  | .func _ cs, h => by simp only [nid] at h; simp only [shiftA, shiftL_nid k h]
  | .agg cs, h => by simp only [nid] at h; simp only [shiftA, shiftL_nid k h]
  | .tup cs, h => by simp only [nid] at h; simp only [shiftA, shiftL_nid k h]
  | .iface _ a, h => by simp only [nid] at h; simp only [shiftA, shift_nid k h]
theorem shiftL_nid (k : Nat) : ∀ {as : List AV}, nidL as = true → shiftL k as = as
  | [], _ => by simp only [shiftL]
  | a :: as, h => by
    simp only [nidL, Bool.and_eq_true] at h
    simp only [shiftL, shift_nid k h.1, shiftL_nid k h.2]
end
end Go.Gi
