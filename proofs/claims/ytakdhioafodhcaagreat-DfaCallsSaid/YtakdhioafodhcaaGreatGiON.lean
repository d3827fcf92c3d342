/- outlawkit.Own, as compiled: a list in memory of its own; what is appended to it. -/
import Derived.Test.YtakdhioafodhcaaGreatGiOW
set_option linter.unusedVariables false
set_option linter.unusedSimpArgs false
set_option linter.unusedSectionVars false
namespace Go.Gi
open Go
variable {α : Type}
abbrev ownC (e : TypeId) (sz bytes : Nat) : IC := (IC.seq (IC.reg [⟨some 2, .op (.mov), [.c (.nils)], none⟩]) (IC.seq (IC.reg [⟨some 3, .op (.bsl e sz false), [], none⟩,
 ⟨some 4, .op (.mov), [.t 0], none⟩,
 ⟨some 5, .op (.app e sz bytes), [.t 3, .t 4], none⟩,
 ⟨some 2, .op (.mov), [.t 5], none⟩]) IC.ret))
def ownV (sz len n : Nat) : AV := if len = 0 then .sl n 0 0 sz 0 true else .sl (n + 1) 0 len sz len false
def ownH (e : TypeId) (len : Nat) (cs : List AV) : HP := if len = 0 then [some (.row e [])] else [some (.row e []), some (.row e cs)]
def OwnS (E : Enc α) (hp : HP) (v : AV) (e : TypeId) (l : List α) : Prop := ∃ id ex, v = .sl id 0 l.length E.sz l.length ex ∧ hp[id]? = some (some (.row e (E.cs l)))
section
variable {E : Enc α} {hp : HP} {v : AV} {e : TypeId} {l : List α}
theorem OwnS.frz (h : OwnS E hp v e l) : Gi.frz hp v = some (E.S l) := by
 obtain ⟨id, ex, rfl, h⟩ := h
 exact E.sl_frz h
theorem OwnS.fresh (h : OwnS E hp v e l) (hi : E.ip = true := by rfl) : Gi.fresh hp v = some (E.S l) := by
 obtain ⟨id, ex, rfl, h⟩ := h
 exact E.sl_fresh h hi
theorem OwnS.src (h : OwnS E hp v e l) : srcA hp E.sz v = some (E.cs l, l.length) := by
 obtain ⟨id, ex, rfl, h⟩ := h
 exact E.sl_src h
theorem OwnS.len (h : OwnS E hp v e l) (hp2 : HP) : lenA hp2 v = some (.int .i64 l.length) := by
 obtain ⟨id, ex, rfl, h⟩ := h
 rfl
theorem OwnS.fits (h : OwnS E hp v e l) : lenFits .slice v = true := by
 obtain ⟨id, ex, rfl, h⟩ := h
 rfl
theorem OwnS.one (h : OwnS E hp v e l) : oneA v = true := by
 obtain ⟨id, ex, rfl, h⟩ := h
 rfl
theorem OwnS.cells (h : OwnS E hp v e l) : cellsA v = [v] := by
 obtain ⟨id, ex, rfl, h⟩ := h
 rfl
theorem OwnS.notTup (h : OwnS E hp v e l) : Gi.notTup v = true := by
 obtain ⟨id, ex, rfl, h⟩ := h
 rfl
end
theorem own_calls {P : Program} (hm : P.follows .mixedOrders = true) {hint : Nat → Nat} {f : FuncId} {e : TypeId} {bytes : Nat} (E : Enc α) (hf : compF P hint f = some ⟨ownC e E.sz bytes, 6, [.t 2]⟩) {l : List α} (hb : l.length * bytes ≤ 140737488355328) (hn : l.length ≤ 9223372036854775807) (hp : HP) :
  ACalls P f [E.S l] hp fun r hp' => r = ownV E.sz l.length hp.length ∧ hp' = hp ++ ownH e l.length (E.cs l) := by
 refine calls_e hm (TabOk.none _) hf (by rfl) (by simp) ?_
 by_cases h0 : l.length = 0
 ·have := List.eq_nil_of_length_eq_zero h0
  subst this
  have hs : srcA (hp ++ [some (.row e [])]) E.sz (E.S []) = some ([], 0) := E.S_src _ []
  refine vcE.ex (by simp (disch := omega) only [go_sem, ↓reduceIte, reduceCtorEq, Nat.reduceEqDiff, appA, hs]; rfl) ?_
  exact ⟨_, rfl, rfl, rfl⟩
 ·have hs : srcA (hp ++ [some (.row e [])]) E.sz (E.S l) = some (E.cs l, l.length) := E.S_src _ l
  have happ : appA e E.sz bytes (hp ++ [some (.row e [])]) (.sl hp.length 0 0 E.sz 0 true) (E.S l) = some (.sl (hp.length + 1) 0 l.length E.sz l.length false, hp ++ ownH e l.length (E.cs l)) := by
   have hg : (hp ++ [some (Blk.row e [])])[hp.length]? = some (some (.row e [])) := by simp
   simp only [appA, hs, hg]
   rw [if_neg h0, if_pos (by simp), if_neg (by omega), if_pos (by rw [Nat.zero_add]; exact ⟨hb, hn⟩), if_pos trivial]
   unfold ownH
   rw [if_neg h0]
   simp
  refine vcE.ex (by simp (disch := omega) only [go_sem, ↓reduceIte, reduceCtorEq, Nat.reduceEqDiff, happ]; rfl) ?_
  refine ⟨_, rfl, ?_, rfl⟩
  unfold ownV
  rw [if_neg h0]
  rfl
def ownR (E : Enc α) (e : TypeId) (l : List α) : Res := .mk fun n => (ownV E.sz l.length n, ownH e l.length (E.cs l))
theorem own_ok {P : Program} (hm : P.follows .mixedOrders = true) {hint : Nat → Nat} {f : FuncId} {e : TypeId} {bytes : Nat} (E : Enc α) (hf : compF P hint f = some ⟨ownC e E.sz bytes, 6, [.t 2]⟩) {l : List α} (hb : l.length * bytes ≤ 140737488355328) (hn : l.length ≤ 9223372036854775807) : (ownR E e l).Ok P f [E.S l] :=
 fun hp => own_calls hm E hf hb hn hp
end Go.Gi
