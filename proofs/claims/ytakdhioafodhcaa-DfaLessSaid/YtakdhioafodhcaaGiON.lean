/- outlawkit.Own, as compiled: a list in memory of its own; what is appended to it. -/
import Derived.Test.YtakdhioafodhcaaGiOW
set_option linter.unusedVariables false
set_option linter.unusedSimpArgs false
namespace Go.Gi
open Go

variable {α : Type}

abbrev ownC (e : TypeId) (sz bytes : Nat) : IC := (IC.seq (IC.reg [⟨some 2, .op (.mov), [.c (.nils)], none⟩]) (IC.seq (IC.reg [⟨some 3, .op (.bsl e sz false), [], none⟩,
  ⟨some 4, .op (.mov), [.t 0], none⟩,
  ⟨some 5, .op (.app e sz bytes), [.t 3, .t 4], none⟩,
  ⟨some 2, .op (.mov), [.t 5], none⟩]) IC.ret))
def ownV (sz len n : Nat) : AV := if len = 0 then .sl n 0 0 sz 0 true else .sl (n + 1) 0 len sz len false
def ownH (e : TypeId) (len : Nat) (cs : List AV) : HP := if len = 0 then [some (.row e [])] else [some (.row e []), some (.row e cs)]

def OwnS (E : Enc α) (hp : HP) (v : AV) (e : TypeId) (l : List α) : Prop := ∃ id ex, v = .sl id 0 l.length E.sz l.length ex ∧ hp[id]? = some (some (.row e (E.cs l)))
section
variable {E : Enc α} {hp : HP} {v : AV} {e : TypeId} {l : List α}
theorem OwnS.frz (h : OwnS E hp v e l) : Gi.frz hp v = some (E.S l) := by
  obtain ⟨id, ex, rfl, h⟩ := h
  exact E.sl_frz h
theorem OwnS.fresh (h : OwnS E hp v e l) (hi : E.ip = true := by rfl) : Gi.fresh hp v = some (E.S l) := by
  obtain ⟨id, ex, rfl, h⟩ := h
  exact E.sl_fresh h hi
theorem OwnS.src (h : OwnS E hp v e l) : srcA hp E.sz v = some (E.cs l, l.length) := by
  obtain ⟨id, ex, rfl, h⟩ := h
  exact E.sl_src h
theorem OwnS.len (h : OwnS E hp v e l) (hp2 : HP) : lenA hp2 v = some (.int .i64 l.length) := by
  obtain ⟨id, ex, rfl, h⟩ := h
  rfl
theorem OwnS.fits (h : OwnS E hp v e l) : lenFits .slice v = true := by
  obtain ⟨id, ex, rfl, h⟩ := h
  rfl
theorem OwnS.notStr (h : OwnS E hp v e l) : isStrA v = false := by
  obtain ⟨id, ex, rfl, h⟩ := h
  rfl
theorem OwnS.one (h : OwnS E hp v e l) : oneA v = true := by
  obtain ⟨id, ex, rfl, h⟩ := h
  rfl
theorem OwnS.cells (h : OwnS E hp v e l) : cellsA v = [v] := by
  obtain ⟨id, ex, rfl, h⟩ := h
  rfl
theorem OwnS.notTup (h : OwnS E hp v e l) : Gi.notTup v = true := by
  obtain ⟨id, ex, rfl, h⟩ := h
  rfl
theorem OwnS.app_hp (h : OwnS E hp v e l) (new : HP) : OwnS E (hp ++ new) v e l := by
  obtain ⟨id, ex, rfl, h⟩ := h
  exact ⟨id, ex, rfl, app_get h⟩
end
theorem ownV_at (E : Enc α) (hp : HP) (e : TypeId) (l : List α) : OwnS E (hp ++ ownH e l.length (E.cs l)) (ownV E.sz l.length hp.length) e l := by
  unfold ownV ownH
  by_cases h0 : l.length = 0
  · rw [if_pos h0, if_pos h0]
    have := List.eq_nil_of_length_eq_zero h0
    subst this
    exact ⟨hp.length, true, rfl, by simp [Enc.cs]⟩
  · rw [if_neg h0, if_neg h0]
    exact ⟨hp.length + 1, false, rfl, by simp⟩
theorem ownV_app (E : Enc α) (hp : HP) {e : TypeId} (l : List α) {m : List α} {bytes : Nat} {x : AV} (hx : srcA (hp ++ ownH e l.length (E.cs l)) E.sz x = some (E.cs m, m.length)) (hb : (l.length + m.length) * bytes ≤ 140737488355328) (hn : l.length + m.length ≤ 9223372036854775807) :
    ∃ v' hp', appA e E.sz bytes (hp ++ ownH e l.length (E.cs l)) (ownV E.sz l.length hp.length) x = some (v', hp') ∧ OwnS E hp' v' e (l ++ m) ∧ (∀ j, j < hp.length → hp'[j]? = hp[j]?) ∧ hp.length ≤ hp'.length ∧ ∃ id ex, v' = .sl id 0 (l ++ m).length E.sz (l ++ m).length ex ∧ hp.length ≤ id := by
  by_cases hm : m.length = 0
  · have := List.eq_nil_of_length_eq_zero hm
    subst this
    refine ⟨ownV E.sz l.length hp.length, hp ++ ownH e l.length (E.cs l), ?_, by rw [List.append_nil]; exact ownV_at E hp e l, fun j hj => List.getElem?_append_left hj, by simp, ?_⟩
    · have hx' : srcA (hp ++ ownH e l.length (E.cs l)) E.sz x = some ([], 0) := hx
      unfold ownV
      by_cases h0 : l.length = 0
      · rw [if_pos h0]
        simp [appA, hx']
      · rw [if_neg h0]
        simp [appA, hx']
    · unfold ownV
      by_cases h0 : l.length = 0
      · have := List.eq_nil_of_length_eq_zero h0
        subst this
        exact ⟨hp.length, true, by simp, Nat.le_refl _⟩
      · rw [if_neg h0, List.append_nil]
        exact ⟨hp.length + 1, false, rfl, by omega⟩
  · by_cases h0 : l.length = 0
    · have := List.eq_nil_of_length_eq_zero h0
      subst this
      have hcs : ([] : List α).length = 0 := rfl
      refine ⟨.sl (hp.length + 1) 0 m.length E.sz m.length false, (hp ++ [some (.row e [])]) ++ [some (.row e (E.cs m))], ?_, ?_, ?_, by simp, hp.length + 1, false, rfl, by omega⟩
      · simp only [ownV, ownH, hcs, if_true] at hx ⊢
        have hg : (hp ++ [some (Blk.row e [])])[hp.length]? = some (some (.row e [])) := by simp
        simp only [appA, hx, hg]
        have hb' : m.length * bytes ≤ 140737488355328 := by simpa using hb
        have hn' : m.length ≤ 9223372036854775807 := by simpa using hn
        rw [if_neg hm, if_pos (by simp), if_neg (by omega), if_pos (by rw [Nat.zero_add]; exact ⟨hb', hn'⟩), if_pos trivial]
        simp
      · exact ⟨hp.length + 1, false, rfl, by rw [List.getElem?_append_right (by simp)]; simp⟩
      · intro j hj
        rw [List.getElem?_append_left (by simp; omega), List.getElem?_append_left hj]
    · have hat := ownV_at E hp e l
      unfold ownV at hat ⊢
      rw [if_neg h0] at hat ⊢
      have hg : (hp ++ ownH e l.length (E.cs l))[hp.length + 1]? = some (some (.row e (E.cs l))) := by
        unfold ownH
        rw [if_neg h0]
        simp
      refine ⟨_, _, E.sl_app hg hx (by omega) hb hn, ?_, ?_, ?_, _, false, rfl, ?_⟩
      · refine ⟨_, false, rfl, ?_⟩
        rw [List.getElem?_append_right (by simp)]
        simp
      · intro j hj
        rw [List.getElem?_append_left (by simp; omega), List.getElem?_set_ne (by omega), List.getElem?_append_left hj]
      · simp
      · simp

theorem own_calls {P : Program} (hm : P.follows .mixedOrders = true) {hint : Nat → Nat} {f : FuncId} {e : TypeId} {bytes : Nat} (E : Enc α) (hf : compF P hint f = some ⟨ownC e E.sz bytes, 6, [.t 2]⟩) {l : List α} (hb : l.length * bytes ≤ 140737488355328) (hn : l.length ≤ 9223372036854775807) (hp : HP) :
    ACalls P f [E.S l] hp fun r hp' => r = ownV E.sz l.length hp.length ∧ hp' = hp ++ ownH e l.length (E.cs l) := by
  refine calls_e hm (TabOk.none _) hf (by rfl) (by simp) ?_
  by_cases h0 : l.length = 0
  · have := List.eq_nil_of_length_eq_zero h0
    subst this
    have hs : srcA (hp ++ [some (.row e [])]) E.sz (E.S []) = some ([], 0) := E.S_src _ []
    refine vcE.ex (by simp (disch := omega) only [exC, exOps, exOp, wantedE, ↓reduceIte, ROp.run, evsE, evE, putE, bslA, ty, List.length_nil, flatA, List.flatMap_nil, reduceCtorEq, List.getD_cons_zero, Nat.reduceEqDiff, appA, hs]; rfl) ?_
    exact ⟨_, rfl, rfl, rfl⟩
  · have hs : srcA (hp ++ [some (.row e [])]) E.sz (E.S l) = some (E.cs l, l.length) := E.S_src _ l
    have happ : appA e E.sz bytes (hp ++ [some (.row e [])]) (.sl hp.length 0 0 E.sz 0 true) (E.S l) = some (.sl (hp.length + 1) 0 l.length E.sz l.length false, hp ++ ownH e l.length (E.cs l)) := by
      have hg : (hp ++ [some (Blk.row e [])])[hp.length]? = some (some (.row e [])) := by simp
      simp only [appA, hs, hg]
      rw [if_neg h0, if_pos (by simp), if_neg (by omega), if_pos (by rw [Nat.zero_add]; exact ⟨hb, hn⟩), if_pos trivial]
      unfold ownH
      rw [if_neg h0]
      simp
    refine vcE.ex (by simp (disch := omega) only [exC, exOps, exOp, wantedE, ↓reduceIte, ROp.run, evsE, evE, putE, bslA, ty, List.length_nil, flatA, List.flatMap_nil, reduceCtorEq, List.getD_cons_zero, Nat.reduceEqDiff, happ]; rfl) ?_
    refine ⟨_, rfl, ?_, rfl⟩
    unfold ownV
    rw [if_neg h0]
    rfl
def ownR (E : Enc α) (e : TypeId) (l : List α) : Res := .mk fun n => (ownV E.sz l.length n, ownH e l.length (E.cs l))
theorem own_ok {P : Program} (hm : P.follows .mixedOrders = true) {hint : Nat → Nat} {f : FuncId} {e : TypeId} {bytes : Nat} (E : Enc α) (hf : compF P hint f = some ⟨ownC e E.sz bytes, 6, [.t 2]⟩) {l : List α} (hb : l.length * bytes ≤ 140737488355328) (hn : l.length ≤ 9223372036854775807) : (ownR E e l).Ok P f [E.S l] :=
  fun hp => own_calls hm E hf hb hn hp

end Go.Gi
