/- Functions of package slices, as compiled, for elements of any one kind: Equal, Index, Contains, ContainsFunc; outlawkit.Same. -/
import Derived.Test.YtakdhioafodhcaaGreatGiON
import Derived.Test.YtakdhioafodhcaaGreatGiU
set_option linter.unusedVariables false
set_option linter.unusedSimpArgs false
set_option linter.unusedSectionVars false
namespace Go.Gi
open Go
variable {α : Type} [DecidableEq α]
structure El (α : Type) [DecidableEq α] where
 E : Enc α
 v : α → AV
 sh : Option Nat
 K : EqK
 pk : ∀ {l : List α} {i : Nat} {a : α}, l[i]? = some a → pickA sh (E.cs l) (i * E.sz) = some (v a)
 nt : ∀ a, notTup (v a) = true
 ce : ∀ a, cellsA (v a) = E.c a
 nv : ∀ a, nid (v a) = true
 fz : ∀ hp a, frz hp (v a) = some (v a)
 eq : ∀ a b, binA .eql K (v a) (v b) = some (.bool (decide (a = b)))
 ne : ∀ a b, binA .neq K (v a) (v b) = some (.bool (!decide (a = b)))
theorem frz_aggE (E : Enc α) (hp : HP) (a : α) : frz hp (.agg (E.c a)) = some (.agg (E.c a)) := by
 simp only [frz, E.fz]
def El.st (E : Enc α) (ls : List Leaf) (h : ∀ a b, eqA (.st ls) (.agg (E.c a)) (.agg (E.c b)) = some (decide (a = b))) : El α where
 E := E
 v a := .agg (E.c a)
 sh := some E.sz
 K := .st ls
 pk h := E.pick h
 nt _ := rfl
 ce _ := rfl
 nv a := by simp only [nid, E.nd]
 fz hp a := frz_aggE E hp a
 eq a b := by simp only [binA, h, Option.map_some]
 ne a b := by simp only [binA, h, Option.map_some]
abbrev regX (d : Bool) (t : Tr) (is : List IOp) : IC := cond d (.regD .wild is t) (.reg is)
theorem regX_f (t : Tr) (is : List IOp) : regX false t is = .reg is := rfl
theorem take_step {l m : List α} {i : Nat} (h : l.take i = m.take i) {a : α} (h1 : l[i]? = some a) (h2 : m[i]? = some a) : l.take (i + 1) = m.take (i + 1) := by
 rw [List.take_add_one, List.take_add_one, h, h1, h2]
abbrev equalB (sz : Nat) (sh : Option Nat) (K : EqK) (d : Bool) : IC := (IC.seq (IC.reg [⟨some 14, .op (.bin .lss .prim), [.t 13, .t 12], none⟩]) (IC.seq (IC.cond (.t 14) IC.skip (IC.exit 0)) (IC.seq (IC.block 1 (IC.seq (IC.reg [⟨some 15, .op (.mov), [.t 13], none⟩, ⟨some 5, .op (.mov), [.t 15], none⟩]) (IC.seq (regX d (.take 0 (.take 1 (.take 2 (.take 3 (.take 4 (.take 5 (.take 6 (.take 7 (.take 8 (.done)))))))))) [⟨some 16, .op (.mov), [.t 0], none⟩,
 ⟨some 17, .op (.mov), [.t 5], none⟩,
 ⟨some 18, .op (.iaddr sz), [.t 16, .t 17], none⟩,
 ⟨some 19, .op (.load sh), [.t 18], none⟩,
 ⟨some 20, .op (.mov), [.t 1], none⟩,
 ⟨some 21, .op (.mov), [.t 5], none⟩,
 ⟨some 22, .op (.iaddr sz), [.t 20, .t 21], none⟩,
 ⟨some 23, .op (.load sh), [.t 22], none⟩,
 ⟨some 24, .op (.bin .neq K), [.t 19, .t 23], none⟩]) (IC.cond (.t 24) (IC.seq (IC.reg [⟨some 4, .op (.mov), [.c (.bool false)], none⟩]) IC.ret) IC.skip)))) (IC.reg [⟨some 25, .op (.bin .add .prim), [.t 13, .c (.int .i64 1)], none⟩, ⟨some 13, .op (.mov), [.t 25], none⟩]))))
abbrev equalC (sz : Nat) (sh : Option Nat) (K : EqK) (d : Bool) : IC := (IC.seq (IC.reg [⟨some 4, .op (.mov), [.c (.bool false)], none⟩]) (IC.seq (IC.seq (IC.reg [⟨some 6, .op (.mov), [.t 0], none⟩,
 ⟨some 7, .op (.len .slice), [.t 6], none⟩,
 ⟨some 8, .op (.mov), [.t 1], none⟩,
 ⟨some 9, .op (.len .slice), [.t 8], none⟩,
 ⟨some 10, .op (.bin .neq .prim), [.t 7, .t 9], none⟩]) (IC.cond (.t 10) (IC.seq (IC.reg [⟨some 4, .op (.mov), [.c (.bool false)], none⟩]) IC.ret) IC.skip)) (IC.seq (IC.seq (IC.reg [⟨some 11, .op (.mov), [.t 0], none⟩,
 ⟨some 12, .op (.len .slice), [.t 11], none⟩,
 ⟨some 13, .op (.mov), [.c (.int .i64 0)], none⟩]) (IC.block 0 (IC.loop (equalB sz sh K d)))) (IC.seq (IC.reg [⟨some 4, .op (.mov), [.c (.bool true)], none⟩]) IC.ret))))
theorem equal_pc {P : Program} (hm : P.follows .mixedOrders = true) {hint : Nat → Nat} {f : FuncId} (L : El α) (d : Bool) (hf : compF P hint f = some ⟨equalC L.E.sz L.sh L.K d, 26, [.t 4]⟩) {l m : List α} (hl : l.length ≤ 4611686018427387904) (hm2 : m.length ≤ 4611686018427387904) : PCF P f [L.E.S l, L.E.S m] (.bool (decide (l = m))) := by
 refine pcf_e hm (TabOk.none _) hf (by cases d <;> rfl) (by simp) (nidL_ok (by simp only [nidL, Enc.S_nid, Bool.and_self])) ?_
 by_cases hlm : l.length = m.length
 ·refine vcE.step (by simp only [go_sem, ↓reduceIte]; rfl) (vcE.step (by simp (disch := first | assumption | omega) only [go_sem, ↓reduceIte, reduceCtorEq, Nat.reduceEqDiff]; rfl) (vcE.then (fun e tm hp => (e = .normal ∧ l = m) ∨ (e = .ret ∧ tm 4 = .bool false ∧ l ≠ m)) ?_ ?_))
  ·refine vcE.step (by simp only [go_sem, ↓reduceIte, reduceCtorEq]; rfl) (vcE.block (vcE.count (by intro l tm hp h; simp at h)
    (fun i tm hp => tm 0 = L.E.S l ∧ tm 1 = L.E.S m ∧ tm 12 = .int .i64 l.length ∧ tm 13 = .int .i64 i ∧ l.take i = m.take i) l.length ⟨?_, ?_, ?_, ?_, ?_⟩ ?_ ?_))
   ·rfl
   ·rfl
   ·rfl
   ·rfl
   ·simp
   ·rintro i tm hp hi ⟨e0, e1, e12, e13, hE⟩
    obtain ⟨a, ha⟩ : ∃ a, l[i]? = some a := ⟨_, List.getElem?_eq_getElem hi⟩
    obtain ⟨b, hb⟩ : ∃ b, m[i]? = some b := ⟨_, List.getElem?_eq_getElem (by omega)⟩
    have hia : iaddrA L.E.sz (L.E.S l) (.int .i64 i) = some (.fptr (L.E.cs l) (i * L.E.sz)) := L.E.S_iaddr hi
    have hib : iaddrA L.E.sz (L.E.S m) (.int .i64 i) = some (.fptr (L.E.cs m) (i * L.E.sz)) := L.E.S_iaddr (by omega)
    have hp1 := L.pk ha
    have hp2 := L.pk hb
    have hne := L.ne a b
    by_cases hab : a = b
    ·rw [decide_eq_true hab] at hne
     cases d
     all_goals refine vcE.ex (by simp (disch := first | assumption | omega) only [go_sem, ↓reduceIte, e13, e12, Nat.reduceEqDiff, regX_f, reduceCtorEq, e0, hia, ↓hp1, e1, hib, ↓hp2, ↓hne]; rfl) ?_
     all_goals refine ⟨?_, ?_, ?_, ?_, take_step hE ha (by rw [hab]; exact hb)⟩
     all_goals simp only [upd_app, Nat.reduceEqDiff, ↓reduceIte, e0, e1, e12]
     all_goals rfl
    ·rw [decide_eq_false hab] at hne
     have hlm2 : l ≠ m := by
      rintro rfl
      rw [ha] at hb
      cases hb
      exact hab rfl
     cases d
     all_goals refine vcE.ex (by simp (disch := first | assumption | omega) only [go_sem, ↓reduceIte, e13, e12, Nat.reduceEqDiff, regX_f, reduceCtorEq, e0, hia, ↓hp1, e1, hib, ↓hp2, ↓hne]; rfl) ?_
     all_goals refine .inr ⟨rfl, ?_, hlm2⟩
     all_goals simp only [upd_app, Nat.reduceEqDiff, ↓reduceIte]
   ·rintro tm hp ⟨e0, e1, e12, e13, hE⟩
    refine vcE.ex (by simp (disch := omega) only [go_sem, ↓reduceIte, e13, e12]; rfl) ?_
    refine .inl ⟨rfl, ?_⟩
    rw [List.take_length, hlm, List.take_length] at hE
    exact hE
  ·rintro e tm hp (⟨rfl, h⟩ | ⟨rfl, h4, h⟩)
   ·refine vcE.ex (by simp only [go_sem, ↓reduceIte]; rfl) ?_
    refine ⟨_, rfl, ?_⟩
    rw [decide_eq_true h]
    rfl
   ·refine ⟨_, rfl, ?_⟩
    rw [h4, decide_eq_false h]
    rfl
 ·have hlm' : ¬ ((l.length : Int) = m.length) := by omega
  refine vcE.ex (by simp (disch := first | assumption | omega) only [go_sem, ↓reduceIte, reduceCtorEq, Nat.reduceEqDiff]; rfl) ?_
  refine ⟨_, rfl, ?_⟩
  rw [decide_eq_false (fun e => hlm (by rw [e]))]
  rfl
abbrev containsC (f : FuncId) : IC := (IC.seq (IC.reg [⟨some 4, .op (.mov), [.c (.bool false)], none⟩]) (IC.seq (IC.reg [⟨some 5, .op (.mov), [.t 0], none⟩,
 ⟨some 6, .op (.mov), [.t 1], none⟩,
 ⟨some 7, .call none, [.f f, .t 5, .t 6], none⟩,
 ⟨some 8, .op (.bin .geq .prim), [.t 7, .c (.int .i64 0)], none⟩,
 ⟨some 4, .op (.mov), [.t 8], none⟩]) IC.ret))
theorem idx_ge (p : α → Bool) (l : List α) : decide (idx p l ≥ 0) = l.any p := by
 unfold idx
 cases h : l.findIdx? p with
 | none =>
  rw [List.findIdx?_eq_none_iff] at h
  have : l.any p = false := by
   rw [List.any_eq_false]
   intro x hx
   simp [h x hx]
  rw [this]
  rfl
 | some i =>
  rw [List.findIdx?_eq_some_iff_getElem] at h
  obtain ⟨h1, h2, _⟩ := h
  have : l.any p = true := List.any_eq_true.2 ⟨_, List.getElem_mem h1, h2⟩
  rw [this]
  simp
theorem contains_pc {P : Program} (hm : P.follows .mixedOrders = true) {T : Tab} (hT : TabOk P T) {hint : Nat → Nat} {f g : FuncId} (hf : compF P hint f = some ⟨containsC g, 9, [.t 4]⟩) {x y : AV} (hx : nid x = true) (hy : nid y = true) (hfx : frz [] x = some x) (hfy : frz [] y = some y) {b : Bool} {n : Int} (hg : T g [x, y] = some (.rd b (.int .i64 n))) : PCF P f [x, y] (.bool (decide (n ≥ 0))) := by
 refine pcf_e hm hT hf (by rfl) (by simp) (nidL_ok (by simp only [nidL, hx, hy, Bool.and_self])) ?_
 refine vcE.ex (by simp (disch := omega) only [go_sem, ↓reduceIte, reduceCtorEq, Nat.reduceEqDiff, hfx, hfy, hg, hx, hy, ge_iff_le]; rfl) ?_
 exact ⟨_, rfl, rfl⟩
end Go.Gi
