/- slices.IndexFunc for elements that lie in one cell, as compiled. -/
import Derived.Test.YtakdhioafodhcaaGreatGiSL
set_option linter.unusedVariables false
set_option linter.unusedSimpArgs false
set_option linter.unusedSectionVars false
namespace Go.Gi
open Go
variable {α : Type} [DecidableEq α]
abbrev indexLB (sz : Nat) (sh : Option Nat) : IC := (IC.reg [⟨some 9, .op (.bin .lss .prim), [.t 8, .t 7], none⟩]).seq ((IC.cond (.t 9) IC.skip (IC.exit 0)).seq ((IC.block 1 ((IC.reg [⟨some 10, .op .mov, [.t 8], none⟩, ⟨some 5, .op .mov, [.t 10], none⟩]).seq
 ((IC.reg [⟨some 11, .op .mov, [.t 1], none⟩, ⟨some 12, .op .mov, [.t 0], none⟩, ⟨some 13, .op .mov, [.t 5], none⟩, ⟨some 14, .op (.iaddr sz), [.t 12, .t 13], none⟩, ⟨some 15, .op (.load sh), [.t 14], none⟩, ⟨some 16, .call none, [.t 11, .t 15], none⟩]).seq
 (IC.cond (.t 16) ((IC.reg [⟨some 17, .op .mov, [.t 5], none⟩, ⟨some 4, .op .mov, [.t 17], none⟩]).seq IC.ret) IC.skip)))).seq (IC.reg [⟨some 18, .op (.bin .add .prim), [.t 8, .c (.int .i64 1)], none⟩, ⟨some 8, .op .mov, [.t 18], none⟩])))
abbrev indexLC (sz : Nat) (sh : Option Nat) : IC := (IC.reg [⟨some 4, .op .mov, [.c (.int .i64 0)], none⟩]).seq (((IC.reg [⟨some 6, .op .mov, [.t 0], none⟩, ⟨some 7, .op (.len .slice), [.t 6], none⟩, ⟨some 8, .op .mov, [.c (.int .i64 0)], none⟩]).seq (IC.block 0 (IC.loop (indexLB sz sh)))).seq ((IC.reg [⟨some 4, .op .mov, [.c (.int .i64 (-1))], none⟩]).seq IC.ret))
theorem indexL_pc {P : Program} (hm : P.follows .mixedOrders = true) {T : Tab} (hT : TabOk P T) {hint : Nat → Nat} {f : FuncId} (L : El α) (hf : compF P hint f = some ⟨indexLC L.E.sz L.sh, 19, [.t 4]⟩) {g : FuncId} {caps : List AV} (hc : ∀ hp, frzL hp caps = some caps) (hn : nidL caps = true) {b : Bool} {p : α → Bool} {l : List α} (hl : l.length ≤ 4611686018427387904)
  (hp : ∀ a ∈ l, T g (L.v a :: caps) = some (.rd b (.bool (p a)))) : PCF P f [L.E.S l, .func g caps] (.int .i64 (idx p l)) := by
 refine pcf_e hm hT hf (by rfl) (by simp) (nidL_ok (by simp only [nidL, L.E.S_nid, nid, hn, Bool.and_self])) ?_
 refine vcE.step (by simp only [go_sem, ↓reduceIte]; rfl) (vcE.then (fun e tm hp => hp = [] ∧ ((e = .normal ∧ idx p l = -1) ∨ (e = .ret ∧ tm 4 = .int .i64 (idx p l)))) ?_ ?_)
 ·refine vcE.step (by simp only [go_sem, ↓reduceIte, reduceCtorEq]; rfl) (vcE.block (vcE.count (by intro l tm hp h; simp at h)
   (fun i tm hp => hp = [] ∧ tm 0 = L.E.S l ∧ tm 1 = .func g caps ∧ tm 7 = .int .i64 l.length ∧ tm 8 = .int .i64 i ∧ ∀ j, j < i → ∀ b, l[j]? = some b → p b = false) l.length ⟨rfl, ?_, ?_, ?_, ?_, by omega⟩ ?_ ?_))
  ·simp only [upd_app, Nat.reduceEqDiff, ↓reduceIte, start_app, List.getD_cons_zero, List.getD_cons_succ]
  ·simp only [upd_app, Nat.reduceEqDiff, ↓reduceIte, start_app, List.getD_cons_zero, List.getD_cons_succ]
  ·simp only [upd_app, Nat.reduceEqDiff, ↓reduceIte, start_app, List.getD_cons_zero, List.getD_cons_succ]
  ·simp only [upd_app, Nat.reduceEqDiff, ↓reduceIte]; rfl
  ·rintro i tm hp hi ⟨rfl, e0, e1, e7, e8, hb⟩
   obtain ⟨a, ha⟩ : ∃ a, l[i]? = some a := ⟨_, List.getElem?_eq_getElem hi⟩
   have hpick := L.pk ha
   have hca := hp a (List.mem_of_getElem? ha)
   have hna : nid (L.v a) = true := L.nv a
   have hfa : ∀ hp, frz hp (L.v a) = some (L.v a) := fun hp => L.fz hp a
   cases hpa : p a
   ·rw [hpa] at hca
    refine vcE.ex (by simp (disch := omega) only [go_sem, ↓reduceIte, e8, e7, Nat.reduceEqDiff, e1, reduceCtorEq, e0, ↓hpick, hfa, hc, hca, hna, hn]; rfl) ?_
    refine ⟨rfl, ?_, ?_, ?_, ?_, ?_⟩
    all_goals try simp only [upd_app, Nat.reduceEqDiff, ↓reduceIte, e0, e1, e7]
    ·rfl
    ·intro j hj b hb'
     by_cases hji : j = i
     ·subst hji
      rw [ha] at hb'
      cases hb'
      exact hpa
     ·exact hb j (by omega) b hb'
   ·rw [hpa] at hca
    refine vcE.ex (by simp (disch := omega) only [go_sem, ↓reduceIte, e8, e7, Nat.reduceEqDiff, e1, reduceCtorEq, e0, ↓hpick, hfa, hc, hca, hna, hn]; rfl) ?_
    refine ⟨rfl, .inr ⟨rfl, ?_⟩⟩
    simp only [upd_app, Nat.reduceEqDiff, ↓reduceIte]
    rw [idx_some ha hpa hb]
  ·rintro tm hp ⟨rfl, e0, e1, e7, e8, hb⟩
   refine vcE.ex (by simp (disch := omega) only [go_sem, ↓reduceIte, e8, e7]; rfl) ?_
   exact ⟨rfl, .inl ⟨rfl, idx_none hb⟩⟩
 ·rintro e tm hp ⟨rfl, ⟨rfl, h⟩ | ⟨rfl, h⟩⟩
  ·refine vcE.ex (by simp only [go_sem, ↓reduceIte]; rfl) ?_
   refine ⟨_, rfl, ?_⟩
   simp only [upd_app, Nat.reduceEqDiff, ↓reduceIte, h]
   rfl
  ·refine ⟨_, rfl, ?_⟩
   rw [h]
   rfl
end Go.Gi
