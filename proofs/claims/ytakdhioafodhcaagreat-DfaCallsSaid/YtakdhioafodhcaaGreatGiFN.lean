/- Results in memory of their own, also with slices in slices; raw appending. -/
import Derived.Test.YtakdhioafodhcaaGreatGiOW
set_option linter.unusedVariables false
set_option linter.unusedSimpArgs false
set_option linter.unusedSectionVars false
namespace Go.Gi
open Go
def FrzNL (hp : HP) (as as' : List AV) : Prop := ∀ (Δ Δ' : Cx) (vs : List Value), HSim Δ hp → VRels Δ as vs → Δ'.w = Δ.w → (∀ b, Live Δ hp b → Δ'.Fz b) → VRels Δ' as' vs
theorem FrzNL.nil (hp : HP) : FrzNL hp [] [] := fun Δ Δ' vs _ h2 _ _ => by simpa only [VRels] using h2
theorem FrzNL.cons {hp : HP} {a a' : AV} {as as' : List AV} (h1 : FrzN hp a a') (h2 : FrzNL hp as as') : FrzNL hp (a :: as) (a' :: as') := by
 intro Δ Δ' vs k1 k2 k3 k5
 simp only [VRels] at k2 ⊢
 obtain ⟨u, us, rfl, h6, h7⟩ := k2
 exact ⟨u, us, rfl, h1 Δ Δ' u k1 h6 k3 k5, h2 Δ Δ' us k1 h7 k3 k5⟩
theorem FrzN.agg {hp : HP} {as as' : List AV} (h : FrzNL hp as as') : FrzN hp (.agg as) (.agg as') := by
 intro Δ Δ' v h1 h2 h3 h5
 simp only [VRel] at h2 ⊢
 obtain ⟨us, rfl, h6, h7⟩ := h2
 exact ⟨us, rfl, h Δ Δ' us h1 h6 h3 h5, h7⟩
theorem FrzN.tup {hp : HP} {as as' : List AV} (h : FrzNL hp as as') : FrzN hp (.tup as) (.tup as') := by
 intro Δ Δ' v h1 h2 h3 h5
 simp only [VRel] at h2 ⊢
 obtain ⟨us, rfl, h6⟩ := h2
 exact ⟨us, rfl, h Δ Δ' us h1 h6 h3 h5⟩
theorem FrzN.bool (hp : HP) (b : Bool) : FrzN hp (.bool b) (.bool b) := fresh_ok rfl
inductive FrzNs (hp : HP) : List AV → List AV → Prop where
 | nil : FrzNs hp [] []
 | cons {a a' : AV} {as as' : List AV} : FrzN hp a a' → FrzNs hp as as' → FrzNs hp (a :: as) (a' :: as')
theorem FrzNs.len {hp : HP} {as as' : List AV} (h : FrzNs hp as as') : as'.length = as.length := by
 induction h with
 | nil => rfl
 | cons _ _ ih => rw [List.length_cons, List.length_cons, ih]
theorem FrzNs.cells {hp : HP} {as as' : List AV} (h : FrzNs hp as as') {Δ Δ' : Cx} (h1 : HSim Δ hp) (hw : Δ'.w = Δ.w) (h5 : ∀ b, Live Δ hp b → Δ'.Fz b) : ∀ {b o : Nat}, CellsAt Δ as b o → CellsAt Δ' as' b o := by
 induction h with
 | nil => intro b o _; simp [CellsAt]
 | cons ha _ ih =>
  intro b o hc
  simp only [CellsAt] at hc ⊢
  obtain ⟨⟨v, k1, k2, k3⟩, k4⟩ := hc
  exact ⟨⟨v, by rw [hw]; exact k1, k2, ha Δ Δ' v h1 k3 hw h5⟩, ih k4⟩
theorem FrzN.sl {hp : HP} {id len lo : Nat} {ex : Bool} {e : TypeId} {cs cs' : List AV} (hx : hp[id]? = some (some (.row e cs))) (hl : cs.length = len) (h : FrzNs hp cs cs') : FrzN hp (.sl id 0 len 1 lo ex) (.fsl cs' len) := by
 intro Δ Δ' v h1 h2 h3 h5
 simp only [VRel] at h2 ⊢
 obtain ⟨hi, o, c, e', m, rfl, ho, k1, k2, k3, k4, k5⟩ := h2
 refine .inr ⟨_, o, c, rfl, by omega, .inr (h5 _ ⟨id, _, hx, rfl⟩), ?_⟩
 have := sl_cells h1 hx ho (by omega) (by omega : 0 + len * 1 ≤ cs.length)
 rw [List.drop_zero, List.take_of_length_le (by omega)] at this
 exact h.cells h1 h3 h5 this
theorem app_raw {hp : HP} {id : Nat} {e : TypeId} {cs ms : List AV} {bytes : Nat} {x : AV} (h : cs = [] ∨ hp[id]? = some (some (.row e cs))) (hx : srcA hp 1 x = some (ms, ms.length)) (hm : 0 < ms.length) (hb : (cs.length + ms.length) * bytes ≤ 140737488355328) (hn : cs.length + ms.length ≤ 9223372036854775807) :
  ∃ hp', appA e 1 bytes hp (bld id cs.length 1) x = some (bld hp.length (cs ++ ms).length 1, hp') ∧ hp'[hp.length]? = some (some (.row e (cs ++ ms))) ∧ (∀ k, k < hp.length → (cs = [] ∨ k ≠ id) → hp'[k]? = hp[k]?) ∧ hp'.length = hp.length + 1 := by
 have hpos : 0 < (cs ++ ms).length := by simp; omega
 rw [bld_pos hpos]
 by_cases h0 : cs.length = 0
 ·have := List.eq_nil_of_length_eq_zero h0
  subst this
  refine ⟨hp ++ [some (.row e ms)], ?_, ?_, ?_, ?_⟩
  ·simp only [bld, List.length_nil, if_true, appA, hx]
   rw [if_neg (by omega), if_pos ⟨by simpa using hb, by simpa using hn⟩]
   simp
  ·simp
  ·intro k hk _
   rw [List.getElem?_append_left hk]
  ·simp
 ·have hr := h.resolve_left (fun e => h0 (by rw [e]; rfl))
  rw [bld_pos (by omega)]
  refine ⟨hp.set id none ++ [some (.row e (cs ++ ms))], ?_, ?_, ?_, ?_⟩
  ·simp only [appA, hx, hr]
   rw [if_neg (by omega), if_pos ⟨trivial, by omega⟩, if_neg (by omega), if_pos ⟨hb, hn⟩]
   simp only [Bool.false_eq_true, if_false, List.drop_zero]
   rw [if_pos ⟨by omega, trivial⟩, List.length_append]
  ·rw [List.getElem?_append_right (by simp)]
   simp
  ·intro k hk hne
   have hne : k ≠ id := hne.resolve_left (fun e => h0 (by rw [e]; rfl))
   rw [List.getElem?_append_left (by simpa using hk), List.getElem?_set_ne (Ne.symm hne)]
  ·simp
theorem src_cell {hp : HP} {e : TypeId} {a : AV} {ex : Bool} : srcA (hp ++ [some (.row e [a])]) 1 (.sl hp.length 0 1 1 1 ex) = some ([a], 1) := by
 simp [srcA]
end Go.Gi
