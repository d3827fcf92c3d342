/- Tables built: the bound does not matter, if it allows the table. -/
/- Tables: all the same; the law of bounds. -/
/- Tables built run as the states do: the plain law. -/
/- The document's answers for tables: same, place, may, Check, Run, Same: what they give. -/
/- The document's answers for tables: Check, Run, Same: what they give. -/
/- The document's classes of bytes: the plain law. -/
/- The document's tables, built: the plain law: they are the program's. -/
import Derived.Test.YtakdhioafodhcaaGreatGiDfS
import Derived.Test.YtakdhioafodhcaaGreatGiDfC
import Derived.Test.YtakdhioafodhcaaGreatGiSL
import Derived.Test.YtakdhioafodhcaaGreatGiNfT
set_option linter.unusedVariables false
set_option linter.unusedSimpArgs false
set_option linter.unusedSectionVars false

namespace Go.Gi
section
open Go Go.Proofs
theorem nextF_len (st : List Int → Int → List Int) (row : List Int) : ∀ (sm : List Int) (s : List Int × List (List Int)), s.2.length ≤ (sm.foldl (nxF st row) s).2.length
 | [], s => Nat.le_refl _
 | c :: sm, s => by
  refine Nat.le_trans ?_ (nextF_len st row sm (nxF st row s c))
  unfold nxF
  split
  ·exact Nat.le_refl _
  ·exact (numF_len _ _).2
section
variable {st : List Int → Int → List Int} {ac : List Int → Bool} {sm : List Int}
theorem bldF_le {most : Nat} : ∀ {k i : Nat} {rows nx : List (List Int)} {acs : List Bool} {r : List (List Int) × List Bool}, bldF st ac sm most k i rows nx acs = some r → nx.length = i → acs.length = i → i ≤ rows.length → i ≤ most → r.1.length ≤ most ∧ rows.length ≤ r.1.length ∧ r.2.length = r.1.length
 | 0, i, rows, nx, acs, r, h, _, _, _, _ => by cases h
 | k + 1, i, rows, nx, acs, r, h, hn, ha, hi, hm => by
  rw [bldF] at h
  cases hg : rows[i]? with
  | none =>
   rw [hg] at h
   cases h
   have := List.getElem?_eq_none_iff.1 hg
   simp only
   omega
  | some row =>
   rw [hg] at h
   have hlt := (List.getElem?_eq_some_iff.1 hg).1
   by_cases hc : rows.length > most
   ·simp only [if_pos hc] at h
    cases h
   ·simp only [if_neg hc] at h
    have hl := nextF_len st row sm ([], rows)
    have := bldF_le h (by simp [hn]) (by simp [ha]) (by simp only [nextF]; simp only at hl; omega) (by omega)
    simp only [nextF] at this
    simp only at hl
    exact ⟨this.1, by omega, this.2.2⟩
end
theorem buildF_yes {p : List UInt8} {f : Bool} {most : Int} (h : (buildF p f most).2 = true) : ∃ r, checkG p = 0 ∧ 1 ≤ most ∧ most ≤ 256 ∧ buildR p f most.toNat = some r ∧ (buildF p f most).1 = ⟨clsL (patP (newV p f)) f, r.1, r.2⟩ := by
 unfold buildF at h ⊢
 by_cases hb : checkG p ≠ 0 ∨ most < 1 ∨ 256 < most
 ·rw [if_pos hb] at h
  cases h
 ·rw [if_neg hb] at h ⊢
  cases hr : buildR p f most.toNat with
  | none =>
   rw [hr] at h
   cases h
  | some r =>
   refine ⟨r, Decidable.byContradiction fun h => hb (.inl h), ?_, ?_, rfl, rfl⟩
   ·have : ¬ most < 1 := fun h => hb (.inr (.inl h))
    omega
   ·have : ¬ 256 < most := fun h => hb (.inr (.inr h))
    omega
theorem buildF_no {p : List UInt8} {f : Bool} {most : Int} (h : (buildF p f most).2 = false) : (buildF p f most).1 = noDfa := by
 unfold buildF at h ⊢
 by_cases hb : checkG p ≠ 0 ∨ most < 1 ∨ 256 < most
 ·rw [if_pos hb]
 ·rw [if_neg hb] at h ⊢
  cases hr : buildR p f most.toNat with
  | none => rfl
  | some r =>
   rw [hr] at h
   cases h
end
section
open Go Go.Proofs
def elT : El Bool where
 E := encT
 v n := .bool n
 sh := none
 K := .bool
 pk := fun {l i a} h => by
  have := encT.pick1 (l := l) rfl h (v := .bool a) rfl rfl
  simpa [encT] using this
 nt _ := rfl
 ce _ := rfl
 nv _ := rfl
 fz _ _ := rfl
 eq a b := by cases a <;> cases b <;> rfl
 ne a b := by cases a <;> cases b <;> rfl
theorem pEqI (l m : List Int) (hl : l.length ≤ 4611686018427387904) (hm : m.length ≤ 4611686018427387904) : PCF Tryz.prog 39 [encI.S l, encI.S m] (.bool (decide (l = m))) := equal_pc hmG elI true comp39 hl hm
theorem pEqT (l m : List Bool) (hl : l.length ≤ 4611686018427387904) (hm : m.length ≤ 4611686018427387904) : PCF Tryz.prog 41 [encT.S l, encT.S m] (.bool (decide (l = m))) := equal_pc hmG elT true comp41 hl hm
def S0 : Tab := (Tab.none.addO 39 (.cons (.S encI) (.cons (.S encI) .nil)) fun p => if p.1.length ≤ 4611686018427387904 ∧ p.2.1.length ≤ 4611686018427387904 then some (.rd true (.bool (decide (p.1 = p.2.1)))) else none).addO 41 (.cons (.S encT) (.cons (.S encT) .nil)) fun p => if p.1.length ≤ 4611686018427387904 ∧ p.2.1.length ≤ 4611686018427387904 then some (.rd true (.bool (decide (p.1 = p.2.1)))) else none
theorem S0_ok : TabOk Tryz.prog S0 := by
 refine TabOk.addO (TabOk.addO (TabOk.none _) ?_) ?_
 ·intro p r h
  split at h
  ·rename_i hv; cases h; exact pEqI p.1 p.2.1 hv.1 hv.2
  ·cases h
 ·intro p r h
  split at h
  ·rename_i hv; cases h; exact pEqT p.1 p.2.1 hv.1 hv.2
  ·cases h
theorem S0_i {l m : List Int} (hl : l.length ≤ 4611686018427387904) (hm : m.length ≤ 4611686018427387904) : S0 39 [encI.S l, encI.S m] = some (.rd true (.bool (decide (l = m)))) :=
 (Tab.addO_ne _ _ _ _ rfl _).trans ((Tab.addO_self _ _ (.cons (.S encI) (.cons (.S encI) .nil)) _ (l, m, ())).trans (if_pos ⟨hl, hm⟩))
theorem S0_t {l m : List Bool} (hl : l.length ≤ 4611686018427387904) (hm : m.length ≤ 4611686018427387904) : S0 41 [encT.S l, encT.S m] = some (.rd true (.bool (decide (l = m)))) :=
 (Tab.addO_self _ _ (.cons (.S encT) (.cons (.S encT) .nil)) _ (l, m, ())).trans (if_pos ⟨hl, hm⟩)
theorem pEqF (l m : List (List Int)) (hl : l.length ≤ 1000000) (hm : m.length ≤ 1000000) (h1 : ∀ r ∈ l, r.length ≤ 1000000) (h2 : ∀ r ∈ m, r.length ≤ 1000000) : PCF Tryz.prog 40 [encR.S l, encR.S m, .func 39 []] (.bool (decide (l = m))) := by
 refine pcf_e hmG S0_ok comp40 (by decide) (by simp) (nidL_ok (by simp only [nidL, nid, Enc.S_nid, Bool.and_self])) ?_
 have hat : ∀ (l : List (List Int)) (i : Nat) (r : List Int), l[i]? = some r → iaddrA 1 (encR.S l) (.int .i64 (i : Int)) = some (.fptr (encR.cs l) i) ∧ pickA none (encR.cs l) i = some (encI.S r) := by
  intro l i r h
  have hlt := (List.getElem?_eq_some_iff.1 h).1
  have hne : encR.cs l ≠ [] := by
   intro h0
   have := encR_len l
   rw [h0, List.length_nil] at this
   omega
  refine ⟨?_, encR_at h⟩
  simp only [iaddrA, Enc.S]
  rw [if_pos ⟨hne, by omega, by omega⟩, Int.toNat_natCast, Nat.mul_one]
 refine vcE.step (by simp (disch := first | assumption | omega) only [go_sem, ↓reduceIte]; rfl) ?_
 by_cases hlm : l.length = m.length
 rotate_left
 ·have hne : l ≠ m := fun e => hlm (by rw [e])
  have hlm' : ¬ (l.length : Int) = (m.length : Int) := by omega
  rw [decide_eq_false hne]
  refine vcE.ex (by simp (disch := first | assumption | omega) only [go_sem, ↓reduceIte, reduceCtorEq, Nat.reduceEqDiff, hlm', decide_false]; rfl) ?_
  exact ⟨_, rfl, rfl⟩
 have hlm' : (l.length : Int) = (m.length : Int) := by omega
 refine vcE.step (by simp (disch := first | assumption | omega) only [go_sem, ↓reduceIte, reduceCtorEq, hlm', Nat.reduceEqDiff]; rfl) ?_
 refine vcE.then (fun e' tm' hp' => (e' = .normal ∧ l = m) ∨ (e' = .ret ∧ hp' = [] ∧ tm' 6 = .bool false ∧ l ≠ m)) ?_ ?_
 rotate_left
 ·rintro e' tm' hp' (⟨rfl, h⟩ | ⟨rfl, rfl, t6, h⟩)
  ·rw [decide_eq_true h]
   refine vcE.ex (by simp (disch := first | assumption | omega) only [go_sem, ↓reduceIte]; rfl) ?_
   exact ⟨_, rfl, rfl⟩
  ·rw [decide_eq_false h]
   refine ⟨.bool false, ?_, rfl⟩
   simp only [resE, resEL, resE1, t6]
 refine vcE.step (by simp (disch := first | assumption | omega) only [go_sem, ↓reduceIte, reduceCtorEq]; rfl) (vcE.block (vcE.loop (by intro l tm hp h; simp at h) (fun k tm' hp' => ∃ i : Nat, k = l.length - i ∧ i ≤ l.length ∧ hp' = [] ∧ l.take i = m.take i ∧ tm' 1 = encR.S m ∧ tm' 2 = .func 39 [] ∧ tm' 15 = encR.S l ∧ tm' 16 = .int .i64 (l.length : Int) ∧ tm' 17 = .int .i64 (i : Int)) l.length ⟨0, rfl, Nat.zero_le _, rfl, rfl, ?_, ?_, ?_, ?_, ?_⟩ ?_))
 ·first | (simp only [upd_app, Nat.reduceEqDiff, ↓reduceIte]; done) | (simp only [upd_app, Nat.reduceEqDiff, ↓reduceIte]; rfl)
 ·first | (simp only [upd_app, Nat.reduceEqDiff, ↓reduceIte]; done) | (simp only [upd_app, Nat.reduceEqDiff, ↓reduceIte]; rfl)
 ·first | (simp only [upd_app, Nat.reduceEqDiff, ↓reduceIte]; done) | (simp only [upd_app, Nat.reduceEqDiff, ↓reduceIte]; rfl)
 ·first | (simp only [upd_app, Nat.reduceEqDiff, ↓reduceIte, hlm]; done) | (simp only [upd_app, Nat.reduceEqDiff, ↓reduceIte, hlm]; rfl)
 ·first | (simp only [upd_app, Nat.reduceEqDiff, ↓reduceIte]; done) | (simp only [upd_app, Nat.reduceEqDiff, ↓reduceIte]; rfl)
 rintro k tm hp ⟨i, rfl, hi, rfl, htk, t1, t2, t15, t16, t17⟩
 by_cases hlt : i < l.length
 rotate_left
 ·have : i = l.length := by omega
  subst this
  rw [List.take_length, hlm, List.take_length] at htk
  refine vcE.ex (by simp (disch := first | assumption | omega) only [go_sem, ↓reduceIte, t17, t16, Int.ofNat_lt, hlt, decide_false]; rfl) ?_
  exact .inl ⟨rfl, htk⟩
 have hlt2 : i < m.length := by omega
 have ga := List.getElem?_eq_getElem hlt
 have gb := List.getElem?_eq_getElem hlt2
 generalize l[i] = a at ga
 generalize m[i] = b at gb
 obtain ⟨y1, p1⟩ := hat l i a ga
 obtain ⟨y2, p2⟩ := hat m i b gb
 have hla := h1 a (List.mem_of_getElem? ga)
 have hlb := h2 b (List.mem_of_getElem? gb)
 have he := S0_i (l := a) (m := b) (by omega) (by omega)
 have w1 := natW (x := (i : Int) + 1) (i + 1) (by omega) (by omega)
 by_cases hab : a = b
 ·rw [decide_eq_true hab] at he
  refine vcE.ex (by simp (disch := first | assumption | omega) only [go_sem, ↓reduceIte, t17, t16, Int.ofNat_lt, hlt, Nat.reduceEqDiff, t15, ↓y1, ↓p1, t1, ↓y2, ↓p2, t2, he, w1]; rfl) ?_
  refine ⟨l.length - (i + 1), by omega, i + 1, rfl, by omega, rfl, ?_, ?_, ?_, ?_, ?_, ?_⟩
  ·rw [List.take_add_one, List.take_add_one, ga, gb, hab, htk]
  all_goals simp only [upd_app, Nat.reduceEqDiff, ↓reduceIte, t1, t2, t15, t16]
 ·rw [decide_eq_false hab] at he
  refine vcE.ex (by simp (disch := first | assumption | omega) only [go_sem, ↓reduceIte, t17, t16, Int.ofNat_lt, hlt, Nat.reduceEqDiff, t15, ↓y1, ↓p1, t1, ↓y2, ↓p2, t2, he]; rfl) ?_
  refine .inr ⟨rfl, rfl, ?_, ?_⟩
  ·simp only [upd_app, Nat.reduceEqDiff, ↓reduceIte]
  ·intro e
   rw [e, gb] at ga
   cases ga
   exact hab rfl
def Dfa.small (d : Dfa) : Prop := d.cls.length ≤ 1000000 ∧ d.nxt.length ≤ 1000000 ∧ d.acc.length ≤ 1000000 ∧ ∀ r ∈ d.nxt, r.length ≤ 1000000
instance (d : Dfa) : Decidable d.small := inferInstanceAs (Decidable (_ ∧ _))
def S1 : Tab := S0.addO 40 (.cons (.S encR) (.cons (.S encR) (.cons (.fn 39 .nil) .nil))) fun p => if (p.1.length ≤ 1000000 ∧ p.2.1.length ≤ 1000000) ∧ (∀ r ∈ p.1, r.length ≤ 1000000) ∧ ∀ r ∈ p.2.1, r.length ≤ 1000000 then some (.rd true (.bool (decide (p.1 = p.2.1)))) else none
theorem S1_ok : TabOk Tryz.prog S1 := by
 refine TabOk.addO S0_ok ?_
 intro p r h
 split at h
 ·rename_i hv; cases h; exact pEqF p.1 p.2.1 hv.1.1 hv.1.2 hv.2.1 hv.2.2
 ·cases h
theorem S1_f {l m : List (List Int)} (hl : l.length ≤ 1000000) (hm : m.length ≤ 1000000) (h1 : ∀ r ∈ l, r.length ≤ 1000000) (h2 : ∀ r ∈ m, r.length ≤ 1000000) : S1 40 [encR.S l, encR.S m, .func 39 []] = some (.rd true (.bool (decide (l = m)))) :=
 (Tab.addO_self _ _ (.cons (.S encR) (.cons (.S encR) (.cons (.fn 39 .nil) .nil))) _ (l, m, (), ())).trans (if_pos ⟨⟨hl, hm⟩, h1, h2⟩)
theorem pSame (a b : Dfa) (ha : a.small) (hb : b.small) : PCF Tryz.prog 15 [.agg a.c, .agg b.c] (.bool (decide (a = b))) := by
 refine pcf_e hmG S1_ok comp15 (by decide) (by simp) (nidL_ok (by simp only [nidL, nid, Dfa.c_nid, Bool.and_self])) ?_
 obtain ⟨a1, a2, a3, a4⟩ := ha
 obtain ⟨b1, b2, b3, b4⟩ := hb
 have e1 : S1 39 [encI.S a.cls, encI.S b.cls] = _ := (Tab.addO_ne _ _ _ _ rfl _).trans (S0_i (by omega) (by omega))
 have e2 := S1_f a2 b2 a4 b4
 have e3 : S1 41 [encT.S a.acc, encT.S b.acc] = _ := (Tab.addO_ne _ _ _ _ rfl _).trans (S0_t (by omega) (by omega))
 obtain ⟨x1, x2, x3⟩ := a
 obtain ⟨y1, y2, y3⟩ := b
 simp only at *
 have hd : decide ((⟨x1, x2, x3⟩ : Dfa) = ⟨y1, y2, y3⟩) = (decide (x1 = y1) && (decide (x2 = y2) && decide (x3 = y3))) := by
  rw [Bool.eq_iff_iff]
  simp only [decide_eq_true_eq, Bool.and_eq_true, Dfa.mk.injEq]
 rw [hd]
 simp only [Dfa.c]
 by_cases h1 : x1 = y1
 ·by_cases h2 : x2 = y2
  ·rw [decide_eq_true h1] at e1
   rw [decide_eq_true h2] at e2
   rw [decide_eq_true h1, decide_eq_true h2, Bool.true_and, Bool.true_and]
   refine vcE.ex (by simp (disch := first | assumption | omega) only [go_sem, ↓reduceIte, boxA, Nat.reduceEqDiff, e1, e2, e3]; rfl) ?_
   exact ⟨_, rfl, rfl⟩
  ·rw [decide_eq_true h1] at e1
   rw [decide_eq_false h2] at e2
   rw [decide_eq_true h1, decide_eq_false h2, Bool.true_and, Bool.false_and]
   refine vcE.ex (by simp (disch := first | assumption | omega) only [go_sem, ↓reduceIte, boxA, Nat.reduceEqDiff, e1, e2]; rfl) ?_
   exact ⟨_, rfl, rfl⟩
 ·rw [decide_eq_false h1] at e1
  rw [decide_eq_false h1, Bool.false_and]
  refine vcE.ex (by simp (disch := first | assumption | omega) only [go_sem, ↓reduceIte, boxA, Nat.reduceEqDiff, e1]; rfl) ?_
  exact ⟨_, rfl, rfl⟩
end
section
open Go Go.Proofs
def row8 (l : List Int) : Prop := ∀ v ∈ l, 0 ≤ v ∧ v < 256
theorem ofI8 {n : Int} (h : 0 ≤ n ∧ n < 256) : ((UInt8.ofNat (n % 256).toNat).toNat : Int) = n := by
 rw [UInt8.toNat_ofNat']
 omega
theorem keyI_inj : ∀ {l m : List Int}, row8 l → row8 m → keyI l = keyI m → l = m
 | [], [], _, _, _ => rfl
 | [], b :: m, _, _, h => by cases h
 | a :: l, [], _, _, h => by cases h
 | a :: l, b :: m, hl, hm, h => by
  rw [keyI, keyI, List.map_cons, List.map_cons, List.cons.injEq] at h
  have h1 := ofI8 (hl a (List.mem_cons_self ..))
  have h2 := ofI8 (hm b (List.mem_cons_self ..))
  rw [h.1, h2] at h1
  rw [h1, keyI_inj (fun v hv => hl v (List.mem_cons_of_mem _ hv)) (fun v hv => hm v (List.mem_cons_of_mem _ hv)) h.2]
theorem findK_some {s : List UInt8} : ∀ {rows : List (List Int)} {j : Nat}, findK s rows = some j → ∃ r, rows[j]? = some r ∧ s = keyI r
 | [], j, h => by cases h
 | r :: rs, j, h => by
  rw [findK] at h
  by_cases hs : s = keyI r
  ·rw [if_pos hs] at h
   cases h
   exact ⟨r, rfl, hs⟩
  ·rw [if_neg hs] at h
   cases hf : findK s rs with
   | none =>
    rw [hf] at h
    cases h
   | some i =>
    rw [hf] at h
    cases h
    obtain ⟨r', h1, h2⟩ := findK_some hf
    exact ⟨r', by simpa using h1, h2⟩
theorem numF_at {rows : List (List Int)} {l : List Int} (hg : ∀ r ∈ rows, row8 r) (hl : row8 l) : ∃ (v : Nat) (tl : List (List Int)), numF rows l = (v, rows ++ tl) ∧ (rows ++ tl)[v]? = some l ∧ ∀ r ∈ rows ++ tl, row8 r := by
 unfold numF
 cases hf : findK (keyI l) rows with
 | some j =>
  obtain ⟨r, h1, h2⟩ := findK_some hf
  have hr := List.mem_of_getElem? h1
  refine ⟨j, [], by simp, ?_, by simpa using hg⟩
  rw [List.append_nil, h1, keyI_inj hl (hg r hr) h2]
 | none =>
  refine ⟨rows.length, [l], rfl, by simp, ?_⟩
  intro r hr
  rcases List.mem_append.1 hr with h | h
  ·exact hg r h
  ·rw [List.mem_singleton] at h
   rw [h]
   exact hl
section
variable {st : List Int → Int → List Int} {ac : List Int → Bool} {sm : List Int}
def leadsTo (st : List Int → Int → List Int) (sm : List Int) (R : List (List Int)) (row nr : List Int) : Prop :=
 nr.length = sm.length ∧ ∀ (k : Nat) (c : Int), sm[k]? = some c → ∃ v : Nat, nr[k]? = some (v : Int) ∧ v < R.length ∧ (0 ≤ c → R[v]? = some (st row c))
theorem get_more {α : Type} {l m : List α} {i : Nat} {a : α} (h : l[i]? = some a) : (l ++ m)[i]? = some a := by
 rw [List.getElem?_append_left (List.getElem?_eq_some_iff.1 h).1]
 exact h
theorem leadsTo.more {R tl : List (List Int)} {row nr : List Int} (h : leadsTo st sm R row nr) : leadsTo st sm (R ++ tl) row nr := by
 refine ⟨h.1, fun k c hk => ?_⟩
 obtain ⟨v, h1, h2, h3⟩ := h.2 k c hk
 refine ⟨v, h1, by rw [List.length_append]; omega, fun hc => get_more (h3 hc)⟩
theorem next_at {row : List Int} (hst : ∀ c, row8 (st row c)) : ∀ (sm acc : List Int) (rows : List (List Int)), rows ≠ [] → (∀ r ∈ rows, row8 r) → ∃ (nr : List Int) (tl : List (List Int)), sm.foldl (nxF st row) (acc, rows) = (acc ++ nr, rows ++ tl) ∧ (∀ r ∈ rows ++ tl, row8 r) ∧ leadsTo st sm (rows ++ tl) row nr
 | [], acc, rows, hne, hg => ⟨[], [], by simp, by simpa using hg, rfl, fun k c h => by simp at h⟩
 | c :: sm, acc, rows, hne, hg => by
  rw [List.foldl_cons]
  have hpos : 0 < rows.length := List.length_pos_iff.2 hne
  by_cases hc : c < 0
  ·have hn : nxF st row (acc, rows) c = (acc ++ [0], rows) := by simp only [nxF, if_pos hc]
   obtain ⟨nr, tl, h1, h2, h3⟩ := next_at hst sm (acc ++ [0]) rows hne hg
   refine ⟨0 :: nr, tl, by rw [hn, h1, List.append_assoc]; rfl, h2, by rw [List.length_cons, List.length_cons, h3.1], ?_⟩
   intro k d hk
   cases k with
   | zero =>
    simp only [List.getElem?_cons_zero, Option.some.injEq] at hk
    subst hk
    exact ⟨0, rfl, by rw [List.length_append]; omega, fun h => by omega⟩
   | succ k => exact h3.2 k d (by simpa using hk)
  ·obtain ⟨v, t1, e1, e2, e3⟩ := numF_at hg (hst c)
   have hn : nxF st row (acc, rows) c = (acc ++ [(v : Int)], rows ++ t1) := by simp only [nxF, if_neg hc, e1]
   obtain ⟨nr, tl, h1, h2, h3⟩ := next_at hst sm (acc ++ [(v : Int)]) (rows ++ t1) (by simp [hne]) e3
   refine ⟨(v : Int) :: nr, t1 ++ tl, by rw [hn, h1, List.append_assoc, List.append_assoc]; rfl, by rw [← List.append_assoc]; exact h2, by rw [List.length_cons, List.length_cons, h3.1], ?_⟩
   rw [← List.append_assoc]
   intro k d hk
   cases k with
   | zero =>
    simp only [List.getElem?_cons_zero, Option.some.injEq] at hk
    subst hk
    have hv := (List.getElem?_eq_some_iff.1 e2).1
    exact ⟨v, rfl, by rw [List.length_append]; omega, fun _ => get_more e2⟩
   | succ k => exact h3.2 k d (by simpa using hk)
end
theorem foldB_two (c : UInt8) : foldB (foldB c) = foldB c := by
 by_cases h : 65 ≤ c.toNat ∧ c.toNat ≤ 90
 ·have := foldB_up h.1 h.2
  exact foldB_lo (by omega)
 ·have : c.toNat < 65 ∨ 90 < c.toNat := by omega
  rw [foldB_lo this, foldB_lo this]
theorem ofB_two (f : Bool) (c : UInt8) : ofB f (ofB f c) = ofB f c := by
 cases f
 ·rfl
 ·exact foldB_two c
theorem sameB_of (f : Bool) (a b : UInt8) : sameB f a b = decide (ofB f a = ofB f b) := by cases f <;> rfl
theorem isB_mem {ks : List UInt8} (hr : Rise ks) {x : UInt8} (h : x ∈ ks) : isB ks x = true := by
 obtain ⟨i, hi⟩ := List.mem_iff_getElem?.1 h
 have hl := (List.getElem?_eq_some_iff.1 hi).1
 have : lowB ks x = i := by
  refine low_eq (by omega) (fun k y hk hy => rise_at hr hy hi hk) fun k y hk hy => ?_
  by_cases hki : k = i
  ·subst hki
   rw [hi] at hy
   cases hy
   simp [ltB]
  ·have := rise_at hr hi hy (by omega)
   simp only [ltB, decide_eq_true_eq, decide_eq_false_iff_not] at *
   omega
 rw [isB, this, hi]
 simp
theorem zeroTo_at {ks : List UInt8} {f : Bool} {c : UInt8} (h : isB ks (ofB f c) = false) : ∀ {n : Nat}, c.toNat < n → n ≤ 256 → ∃ b : UInt8, zeroTo ks f n = (b.toNat : Int) ∧ isB ks (ofB f b) = false
 | 0, hn, _ => by omega
 | n + 1, hn, h2 => by
  rw [zeroTo]
  cases hb : isB ks (ofB f (UInt8.ofNat n)) with
  | false =>
   refine ⟨UInt8.ofNat n, ?_, hb⟩
   rw [if_neg (by simp), UInt8.toNat_ofNat']
   omega
  | true =>
   rw [if_pos rfl]
   refine zeroTo_at h ?_ (by omega)
   rcases Nat.lt_or_ge c.toNat n with h1 | h1
   ·exact h1
   ·have : c.toNat = n := by omega
    rw [← this, UInt8.ofNat_toNat, h] at hb
    cases hb
theorem takes_of {f : Bool} {q : List UInt8} {b c : UInt8} (h : ∀ a ∈ q, keepB a = true → (ofB f a = ofB f b ↔ ofB f a = ofB f c)) (i : Nat) : Gi.takes (sameB f) q i b = Gi.takes (sameB f) q i c := by
 unfold Gi.takes
 cases hq : q[i]? with
 | none => rfl
 | some a =>
  have ha := List.mem_of_getElem? hq
  simp only
  by_cases h42 : a = 42
  ·simp [h42]
  by_cases h63 : a = 63
  ·simp [h63]
  have := h a ha (by simp [keepB, h42, h63])
  rw [sameB_of, sameB_of]
  simp only [this]
theorem leads_takes {s : UInt8 → UInt8 → Bool} {q : List UInt8} {r : Nat → Bool} {b c : UInt8} (h : ∀ i, Gi.takes s q i b = Gi.takes s q i c) : stepS s q r b = stepS s q r c := by
 unfold stepS
 congr 1
 funext j
 cases j with
 | zero => rfl
 | succ j => simp only [leads, h]
theorem checkG_len {p : List UInt8} (h : checkG p = 0) : p.length ≤ 255 ∧ p ≠ [] := by
 unfold checkG at h
 split at h
 ·omega
 ·split at h
  ·omega
  ·exact ⟨by omega, by assumption⟩
theorem lst8 {N : Nat} {b : Nat → Bool} (h : N ≤ 256) : row8 (lst N b) := by
 intro v hv
 obtain ⟨i, h1, _, rfl⟩ := lst_mem.1 hv
 omega
theorem newV_yes {p : List UInt8} {f : Bool} (h : checkG p = 0) : newV p f = some (normB p, f) := if_pos h
theorem newV_n {p : List UInt8} {f : Bool} (h : checkG p = 0) : nN (newV p f) ≤ 256 := by
 have h1 := checkG_len h
 have h2 := normB_len p
 rw [newV_yes h, nN_some (normB_ne h1.2)]
 omega
end
section
open Go Go.Proofs
theorem take_eqD {α : Type} {l m : List α} {i : Nat} (h : l.take i = m.take i) {a : α} (h1 : l[i]? = some a) (h2 : m[i]? = some a) : l.take (i + 1) = m.take (i + 1) := by
 rw [List.take_add_one, List.take_add_one, h, h1, h2]
theorem rsame (l m : List Int) (hl : l.length ≤ 1000000) : PCF Tryz.prog 31 [encI.S l, encI.S m] (.bool (decide (l = m))) := by
 refine pcf_e hmM (TabOk.none _) comp31 (by decide) (by simp) (nidL_ok (by simp only [nidL, Enc.S_nid, Bool.and_self])) ?_
 by_cases hlm : l.length = m.length
 ·refine vcE.step (by simp (disch := first | assumption | omega) only [go_sem, ↓reduceIte]; rfl) (vcE.step (by simp (disch := first | assumption | omega) only [go_sem, ↓reduceIte, reduceCtorEq, Nat.reduceEqDiff]; rfl) (vcE.then (fun e tm hp => (e = .normal ∧ l = m) ∨ (e = .ret ∧ tm 4 = .bool false ∧ l ≠ m)) ?_ ?_))
  ·refine vcE.step (by simp (disch := first | assumption | omega) only [go_sem, ↓reduceIte]; rfl) (vcE.block (vcE.count (by intro l tm hp h; simp at h)
    (fun i tm hp => tm 0 = encI.S l ∧ tm 1 = encI.S m ∧ tm 5 = .int .i64 i ∧ l.take i = m.take i) l.length ⟨?_, ?_, ?_, ?_⟩ ?_ ?_))
   ·rfl
   ·rfl
   ·rfl
   ·simp
   ·rintro i tm hp hi ⟨e0, e1, e5, hE⟩
    obtain ⟨a, ha⟩ : ∃ a, l[i]? = some a := ⟨_, List.getElem?_eq_getElem hi⟩
    obtain ⟨b, hb⟩ : ∃ b, m[i]? = some b := ⟨_, List.getElem?_eq_getElem (by omega)⟩
    have hia := encI_iaddr hi (k := .i64)
    have hib := encI_iaddr (R := m) (i := i) (by omega) (k := .i64)
    have hp1 := encI_at ha
    have hp2 := encI_at hb
    by_cases hab : a = b
    ·refine vcE.ex (by simp (disch := first | assumption | omega) only [go_sem, ↓reduceIte, e5, reduceCtorEq, e0, Nat.reduceEqDiff, hia, ↓hp1, e1, hib, ↓hp2]; rfl) ?_
     refine ⟨?_, ?_, ?_, take_eqD hE ha (by rw [hab]; exact hb)⟩
     ·simp only [upd_app, Nat.reduceEqDiff, ↓reduceIte, e0]
     ·simp only [upd_app, Nat.reduceEqDiff, ↓reduceIte, e1]
     ·simp only [upd_app, Nat.reduceEqDiff, ↓reduceIte]; rfl
    ·refine vcE.ex (by simp (disch := first | assumption | omega) only [go_sem, ↓reduceIte, e5, reduceCtorEq, e0, Nat.reduceEqDiff, hia, ↓hp1, e1, hib, ↓hp2]; rfl) ?_
     refine .inr ⟨rfl, ?_, ?_⟩
     ·simp only [upd_app, Nat.reduceEqDiff, ↓reduceIte]
     ·rintro rfl
      rw [ha] at hb
      cases hb
      exact hab rfl
   ·rintro tm hp ⟨e0, e1, e5, hE⟩
    refine vcE.ex (by simp (disch := first | assumption | omega) only [go_sem, ↓reduceIte, e5, reduceCtorEq, e0, Nat.reduceEqDiff]; rfl) ?_
    refine .inl ⟨rfl, ?_⟩
    rw [List.take_length, hlm, List.take_length] at hE
    exact hE
  ·rintro e tm hp (⟨rfl, h⟩ | ⟨rfl, h4, h⟩)
   ·refine vcE.ex (by simp (disch := first | assumption | omega) only [go_sem, ↓reduceIte]; rfl) ?_
    refine ⟨_, rfl, ?_⟩
    rw [decide_eq_true h]
    rfl
   ·refine ⟨_, rfl, ?_⟩
    rw [h4, decide_eq_false h]
    rfl
 ·have hlm' : ¬ ((l.length : Int) = m.length) := by omega
  refine vcE.ex (by simp (disch := first | assumption | omega) only [go_sem, ↓reduceIte, reduceCtorEq, Nat.reduceEqDiff, hlm']; rfl) ?_
  refine ⟨_, rfl, ?_⟩
  rw [decide_eq_false (fun e => hlm (by rw [e]))]
  rfl
def A0 : Tab := Tab.none.addO 31 (.cons (.S encI) (.cons (.S encI) .nil)) fun p => if p.1.length ≤ 1000000 then some (.rd true (.bool (decide (p.1 = p.2.1)))) else none
theorem A0_ok : TabOk Tryz.prog A0 := by
 refine TabOk.addO (TabOk.none _) ?_
 intro p r h
 split at h
 ·rename_i hv; cases h; exact rsame p.1 p.2.1 hv
 ·cases h
theorem A0_same {l : List Int} (m : List Int) (h : l.length ≤ 1000000) : A0 31 [encI.S l, encI.S m] = some (.rd true (.bool (decide (l = m)))) :=
 (Tab.addO_self _ _ (.cons (.S encI) (.cons (.S encI) .nil)) _ (l, m, ())).trans (if_pos h)
def plc : List (List Int) → List Int → Nat
 | [], _ => 0
 | a :: rs, r => if a = r then 0 else plc rs r + 1
theorem plc_le : ∀ (rows : List (List Int)) (r : List Int), plc rows r ≤ rows.length
 | [], _ => Nat.le_refl _
 | a :: rs, r => by
  have := plc_le rs r
  rw [plc, List.length_cons]
  split <;> omega
theorem rplace (rows : List (List Int)) (r : List Int) (hn : rows.length ≤ 1000000) (hl : ∀ x ∈ rows, x.length ≤ 1000000) : PCF Tryz.prog 29 [encR.S rows, encI.S r] (.int .i64 (plc rows r : Nat)) := by
 refine pcf_e hmM A0_ok comp29 (by decide) (by simp) (nidL_ok (by simp only [nidL, Enc.S_nid, Bool.and_self])) ?_
 refine vcE.step (by simp (disch := first | assumption | omega) only [go_sem, ↓reduceIte]; rfl) (vcE.then (fun e tm hp => (e = .normal ∧ tm 0 = encR.S rows ∧ plc rows r = rows.length) ∨ (e = .ret ∧ tm 4 = .int .i64 (plc rows r : Nat))) ?_ ?_)
 ·refine vcE.step (by simp (disch := first | assumption | omega) only [go_sem, ↓reduceIte]; rfl) (vcE.block (vcE.count (by intro l tm hp h; simp at h)
   (fun i tm hp => tm 0 = encR.S rows ∧ tm 1 = encI.S r ∧ tm 5 = .int .i64 i ∧ plc rows r = i + plc (rows.drop i) r) rows.length ⟨rfl, rfl, rfl, by simp⟩ ?_ ?_))
  ·rintro i tm hp hi ⟨e0, e1, e5, hE⟩
   have ha := List.getElem?_eq_getElem hi
   have hla := hl _ (List.getElem_mem hi)
   rw [List.drop_eq_getElem_cons hi, plc] at hE
   generalize rows[i] = a at ha hla hE
   have hia : iaddrA 1 (encR.S rows) (.int .i64 i) = some (.fptr (encR.cs rows) (i * 1)) := encR.S_iaddr hi
   rw [Nat.mul_one] at hia
   have hp1 := encR_at ha
   have k1 := A0_same r hla
   have hw : IntKind.wrap .i64 ((i : Int) + 1) = ((i + 1 : Nat) : Int) := wrap_i64 (by omega) (by omega)
   by_cases hab : a = r
   ·rw [if_pos hab] at hE
    rw [decide_eq_true hab] at k1
    refine vcE.ex (by simp (disch := first | assumption | omega) only [go_sem, ↓reduceIte, e5, reduceCtorEq, e0, Nat.reduceEqDiff, hia, ↓hp1, e1, k1]; rfl) ?_
    refine .inr ⟨rfl, ?_⟩
    simp only [upd_app, Nat.reduceEqDiff, ↓reduceIte]
    rw [hE]
    rfl
   ·rw [if_neg hab] at hE
    rw [decide_eq_false hab] at k1
    refine vcE.ex (by simp (disch := first | assumption | omega) only [go_sem, ↓reduceIte, e5, reduceCtorEq, e0, Nat.reduceEqDiff, hia, ↓hp1, e1, k1, hw]; rfl) ?_
    refine ⟨?_, ?_, ?_, by omega⟩
    ·simp only [upd_app, Nat.reduceEqDiff, ↓reduceIte, e0]
    ·simp only [upd_app, Nat.reduceEqDiff, ↓reduceIte, e1]
    ·simp only [upd_app, Nat.reduceEqDiff, ↓reduceIte]
  ·rintro tm hp ⟨e0, e1, e5, hE⟩
   refine vcE.ex (by simp (disch := first | assumption | omega) only [go_sem, ↓reduceIte, e5, reduceCtorEq, e0, Nat.reduceEqDiff]; rfl) ?_
   refine .inl ⟨rfl, ?_, ?_⟩
   ·simp only [upd_app, Nat.reduceEqDiff, ↓reduceIte, e0]
   ·rw [List.drop_length, plc] at hE
    omega
 ·rintro e tm hp (⟨rfl, h0, h⟩ | ⟨rfl, h4⟩)
  ·refine vcE.ex (by simp (disch := first | assumption | omega) only [go_sem, ↓reduceIte, h0]; rfl) ?_
   refine ⟨_, rfl, ?_⟩
   rw [h]
   rfl
  ·refine ⟨_, rfl, ?_⟩
   rw [h4]
   rfl
theorem sized_no {d : Dfa} (h : d.sized = false) : d.ok = false := by rw [Dfa.ok, h, Bool.false_and]
theorem rmay (d : Dfa) (hd : d.small) : PCF Tryz.prog 35 [.agg d.c] (.bool d.ok) := by
 refine pcf_e hmM (TabOk.none _) comp35 (by decide) (by simp) (nidL_ok d.a_nid) ?_
 obtain ⟨s1, s2, s3, s4⟩ := hd
 have q0 : pickA none d.c 0 = some (encI.S d.cls) := rfl
 have q1 : pickA none d.c (0 + 1) = some (encR.S d.nxt) := rfl
 have q2 : pickA none d.c (0 + 2) = some (encT.S d.acc) := rfl
 have qc : cellsA (.agg d.c) = d.c := rfl
 refine vcE.step (by simp (disch := first | assumption | omega) only [go_sem, ↓reduceIte, qc]; rfl) ?_
 by_cases h1 : d.cls.length = 256
 rotate_left
 ·have h1' : ¬ (d.cls.length : Int) = 256 := by omega
  refine vcE.ex (by simp (disch := first | assumption | omega) only [go_sem, ↓reduceIte, Nat.reduceEqDiff, ↓q0, h1', decide_false]; rfl) ?_
  refine ⟨_, rfl, ?_⟩
  rw [sized_no (by simp [Dfa.sized, h1])]
  rfl
 have h1' : (d.cls.length : Int) = 256 := by omega
 by_cases h2 : 1 ≤ d.nxt.length
 rotate_left
 ·have h2' : (d.nxt.length : Int) < 1 := by omega
  refine vcE.ex (by simp (disch := first | assumption | omega) only [go_sem, ↓reduceIte, Nat.reduceEqDiff, ↓q0, h1', ↓q1, h2']; rfl) ?_
  refine ⟨_, rfl, ?_⟩
  rw [sized_no (by simp [Dfa.sized, h2])]
  rfl
 have h2' : ¬ (d.nxt.length : Int) < 1 := by omega
 by_cases h3 : d.nxt.length ≤ 256
 rotate_left
 ·have h3' : (d.nxt.length : Int) > 256 := by omega
  refine vcE.ex (by simp (disch := first | assumption | omega) only [go_sem, ↓reduceIte, Nat.reduceEqDiff, ↓q0, h1', ↓q1, h2', decide_false, h3']; rfl) ?_
  refine ⟨_, rfl, ?_⟩
  rw [sized_no (by simp [Dfa.sized, h3])]
  rfl
 have h3' : ¬ (d.nxt.length : Int) > 256 := by omega
 by_cases h4 : d.acc.length = d.nxt.length
 rotate_left
 ·have h4' : ¬ (d.acc.length : Int) = (d.nxt.length : Int) := by omega
  refine vcE.ex (by simp (disch := first | assumption | omega) only [go_sem, ↓reduceIte, Nat.reduceEqDiff, ↓q0, h1', ↓q1, h2', decide_false, h3', ↓q2, h4']; rfl) ?_
  refine ⟨_, rfl, ?_⟩
  rw [sized_no (by simp [Dfa.sized, h4])]
  rfl
 have h4' : (d.acc.length : Int) = (d.nxt.length : Int) := by omega
 have g0 : d.nxt[0]? = some (d.nxt.getD 0 []) := getD_some h2
 have i0 : iaddrA 1 (encR.S d.nxt) (.int .i64 0) = some (.fptr (encR.cs d.nxt) (0 * 1)) := encR.S_iaddr (i := 0) h2
 rw [Nat.mul_one] at i0
 have p0 := encR_at g0
 have hw0 : (d.nxt.getD 0 []).length = d.wide := rfl
 generalize d.nxt.getD 0 [] = r0 at *
 by_cases h5 : 1 ≤ d.wide
 rotate_left
 ·have h5' : (r0.length : Int) < 1 := by omega
  refine vcE.ex (by simp (disch := first | assumption | omega) only [go_sem, ↓reduceIte, Nat.reduceEqDiff, ↓q0, h1', ↓q1, h2', decide_false, h3', ↓q2, h4', i0, ↓p0, h5']; rfl) ?_
  refine ⟨_, rfl, ?_⟩
  rw [sized_no (by simp [Dfa.sized, h5])]
  rfl
 have h5' : ¬ (r0.length : Int) < 1 := by omega
 have hok : d.ok = (d.cls.all (inI d.wide) && d.nxt.all (okRow d.wide d.nxt.length)) := by simp [Dfa.ok, Dfa.sized, h1, h2, h3, h4, h5]
 refine vcE.step (by simp (disch := first | assumption | omega) only [go_sem, ↓reduceIte, Nat.reduceEqDiff, ↓q0, h1', ↓q1, h2', decide_false, h3', ↓q2, h4', i0, ↓p0, h5']; rfl) ?_
 refine vcE.then (fun e tm hp => (e = .ret ∧ d.cls.all (inI d.wide) = false ∧ tm 2 = .bool false) ∨ (e = .normal ∧ hp = [some (.row 26 d.c)] ∧ tm 1 = .ptr 0 0 ∧ d.cls.all (inI d.wide) = true)) ?_ ?_
 ·refine vcE.step (by simp (disch := first | assumption | omega) only [go_sem, ↓reduceIte]; rfl) (vcE.block (vcE.count (by intro l tm hp h; simp at h)
   (fun i tm hp => hp = [some (.row 26 d.c)] ∧ tm 1 = .ptr 0 0 ∧ tm 3 = .int .i64 i ∧ (d.cls.take i).all (inI d.wide) = true) 256 ⟨rfl, rfl, rfl, rfl⟩ ?_ ?_))
  ·rintro i tm hp hi ⟨rfl, t1, t3, hall⟩
   obtain ⟨x, hx⟩ : ∃ x, d.cls[i]? = some x := ⟨_, List.getElem?_eq_getElem (by omega)⟩
   have i1 : iaddrA 1 (encI.S d.cls) (.int .i64 i) = some (.fptr (encI.cs d.cls) (i * 1)) := encI.S_iaddr (by omega)
   rw [Nat.mul_one] at i1
   have p1 := encI_at hx
   have hwr : IntKind.wrap .i64 ((i : Int) + 1) = (i : Int) + 1 := wrap_i64 (by omega) (by omega)
   have hlt : (i : Int) < 256 := by omega
   by_cases hx0 : x < 0
   ·refine vcE.ex (by simp (disch := first | assumption | omega) only [go_sem, ↓reduceIte, t3, hlt, Nat.reduceEqDiff, t1, ↓q0, i1, ↓p1, hx0]; rfl) ?_
    refine .inl ⟨rfl, all_falseD hx (by simp [inI]; omega), ?_⟩
    simp only [upd_app, Nat.reduceEqDiff, ↓reduceIte]
   by_cases hxw : x ≥ (r0.length : Int)
   ·refine vcE.ex (by simp (disch := first | assumption | omega) only [go_sem, ↓reduceIte, t3, hlt, Nat.reduceEqDiff, t1, ↓q0, i1, ↓p1, hx0, decide_false, ↓q1, i0, ↓p0, hxw]; rfl) ?_
    refine .inl ⟨rfl, all_falseD hx (by simp [inI]; omega), ?_⟩
    simp only [upd_app, Nat.reduceEqDiff, ↓reduceIte]
   ·refine vcE.ex (by simp (disch := first | assumption | omega) only [go_sem, ↓reduceIte, t3, hlt, Nat.reduceEqDiff, t1, ↓q0, i1, ↓p1, hx0, decide_false, ↓q1, i0, ↓p0, hxw, hwr]; rfl) ?_
    refine ⟨rfl, ?_, ?_, ?_⟩
    ·simp only [upd_app, Nat.reduceEqDiff, ↓reduceIte, t1]
    ·simp only [upd_app, Nat.reduceEqDiff, ↓reduceIte]
     rfl
    ·rw [all_takeD hx, hall, inI_iff.2 ⟨by omega, by omega⟩]
     rfl
  ·rintro tm hp ⟨rfl, t1, t3, hall⟩
   rw [List.take_of_length_le (by omega)] at hall
   refine vcE.ex (by simp (disch := first | assumption | omega) only [go_sem, ↓reduceIte, t3]; rfl) ?_
   refine .inr ⟨rfl, rfl, ?_, hall⟩
   simp only [upd_app, Nat.reduceEqDiff, ↓reduceIte, t1]
 rintro e tm hp (⟨rfl, hf, h2⟩ | ⟨rfl, rfl, t1, hcl⟩)
 ·exact ⟨_, by simp only [resE, resEL, resE1, h2]; rfl, by rw [hok, hf]; rfl⟩
 rw [hcl, Bool.true_and] at hok
 rw [hok]
 refine vcE.then (fun e tm hp => (e = .ret ∧ d.nxt.all (okRow d.wide d.nxt.length) = false ∧ tm 2 = .bool false) ∨ (e = .normal ∧ d.nxt.all (okRow d.wide d.nxt.length) = true)) ?_ ?_
 ·refine vcE.step (by simp (disch := first | assumption | omega) only [go_sem, ↓reduceIte]; rfl) (vcE.block (vcE.count (by intro l tm hp h; simp at h)
   (fun i tm hp => hp = [some (.row 26 d.c)] ∧ tm 1 = .ptr 0 0 ∧ tm 4 = .int .i64 i ∧ (d.nxt.take i).all (okRow d.wide d.nxt.length) = true) d.nxt.length ⟨rfl, ?_, rfl, rfl⟩ ?_ ?_))
  ·simp only [upd_app, Nat.reduceEqDiff, ↓reduceIte, t1]
  ·clear t1
   rintro i tm hp hi ⟨rfl, t1, t4, hall⟩
   obtain ⟨r, hr⟩ : ∃ r, d.nxt[i]? = some r := ⟨_, List.getElem?_eq_getElem hi⟩
   have i1 : iaddrA 1 (encR.S d.nxt) (.int .i64 i) = some (.fptr (encR.cs d.nxt) (i * 1)) := encR.S_iaddr hi
   rw [Nat.mul_one] at i1
   have p1 := encR_at hr
   have hrl := s4 r (List.mem_of_getElem? hr)
   have hwr : IntKind.wrap .i64 ((i : Int) + 1) = (i : Int) + 1 := wrap_i64 (by omega) (by omega)
   refine vcE.step (by simp (disch := first | assumption | omega) only [go_sem, ↓reduceIte, t4, Nat.reduceEqDiff, t1, ↓q1]; rfl) ?_
   refine vcE.then (fun e tm hp => (e = .ret ∧ okRow d.wide d.nxt.length r = false ∧ tm 2 = .bool false) ∨ (e = .normal ∧ hp = [some (.row 26 d.c)] ∧ tm 1 = .ptr 0 0 ∧ tm 4 = .int .i64 i ∧ okRow d.wide d.nxt.length r = true)) ?_ ?_
   rotate_left
   ·rintro e tm hp (⟨rfl, hf, h2⟩ | ⟨rfl, rfl, u1, u4, hk⟩)
    ·exact .inl ⟨rfl, all_falseD hr hf, h2⟩
    ·refine vcE.ex (by simp (disch := first | assumption | omega) only [go_sem, ↓reduceIte, u4, hwr]; rfl) ?_
     refine ⟨rfl, ?_, ?_, ?_⟩
     ·simp only [upd_app, Nat.reduceEqDiff, ↓reduceIte, u1]
     ·simp only [upd_app, Nat.reduceEqDiff, ↓reduceIte]
      rfl
     ·rw [all_takeD hr, hall, hk]
      rfl
   by_cases hw : r.length = d.wide
   rotate_left
   ·have hw' : ¬ (r.length : Int) = (r0.length : Int) := by omega
    refine vcE.block (vcE.ex (by simp (disch := first | assumption | omega) only [go_sem, ↓reduceIte, Nat.reduceEqDiff, t1, ↓q1, t4, i1, ↓p1, i0, ↓p0, hw', decide_false]; rfl) ?_)
    refine .inl ⟨rfl, ?_, ?_⟩
    ·simp [okRow, hw]
    ·simp only [upd_app, Nat.reduceEqDiff, ↓reduceIte]
   have hw' : (r.length : Int) = (r0.length : Int) := by omega
   refine vcE.block (vcE.step (by simp (disch := first | assumption | omega) only [go_sem, ↓reduceIte, Nat.reduceEqDiff, t1, ↓q1, t4, i1, ↓p1, hw', i0, ↓p0]; rfl) ?_)
   have hok2 : okRow d.wide d.nxt.length r = r.all (inI d.nxt.length) := by simp [okRow, hw]
   refine vcE.step (by simp (disch := first | assumption | omega) only [go_sem, ↓reduceIte]; rfl) (vcE.block (vcE.count (by intro l tm hp h; simp at h)
    (fun k tm hp => hp = [some (.row 26 d.c)] ∧ tm 1 = .ptr 0 0 ∧ tm 4 = .int .i64 i ∧ tm 5 = .int .i64 k ∧ (r.take k).all (inI d.nxt.length) = true) r.length ⟨rfl, ?_, ?_, rfl, rfl⟩ ?_ ?_))
   ·simp only [upd_app, Nat.reduceEqDiff, ↓reduceIte, t1]
   ·simp only [upd_app, Nat.reduceEqDiff, ↓reduceIte, t4]
   ·clear t1 t4
    rintro k tm hp hk ⟨rfl, t1, t4, t5, hal2⟩
    obtain ⟨x, hx⟩ : ∃ x, r[k]? = some x := ⟨_, List.getElem?_eq_getElem hk⟩
    have i2 : iaddrA 1 (encI.S r) (.int .i64 k) = some (.fptr (encI.cs r) (k * 1)) := encI.S_iaddr hk
    rw [Nat.mul_one] at i2
    have p2 := encI_at hx
    have hwk : IntKind.wrap .i64 ((k : Int) + 1) = (k : Int) + 1 := wrap_i64 (by omega) (by omega)
    have hlt : (k : Int) < (r.length : Int) := by omega
    by_cases hx0 : x < 0
    ·refine vcE.ex (by simp (disch := first | assumption | omega) only [go_sem, ↓reduceIte, t5, Nat.reduceEqDiff, t1, ↓q1, t4, i1, ↓p1, hlt, i2, ↓p2, hx0]; rfl) ?_
     refine .inl ⟨rfl, by rw [hok2]; exact all_falseD hx (by simp [inI]; omega), ?_⟩
     simp only [upd_app, Nat.reduceEqDiff, ↓reduceIte]
    by_cases hxw : x ≥ (d.nxt.length : Int)
    ·refine vcE.ex (by simp (disch := first | assumption | omega) only [go_sem, ↓reduceIte, t5, Nat.reduceEqDiff, t1, ↓q1, t4, i1, ↓p1, hlt, i2, ↓p2, hx0, decide_false, hxw]; rfl) ?_
     refine .inl ⟨rfl, by rw [hok2]; exact all_falseD hx (by simp [inI]; omega), ?_⟩
     simp only [upd_app, Nat.reduceEqDiff, ↓reduceIte]
    ·refine vcE.ex (by simp (disch := first | assumption | omega) only [go_sem, ↓reduceIte, t5, Nat.reduceEqDiff, t1, ↓q1, t4, i1, ↓p1, hlt, i2, ↓p2, hx0, decide_false, hxw, hwk]; rfl) ?_
     refine ⟨rfl, ?_, ?_, ?_, ?_⟩
     ·simp only [upd_app, Nat.reduceEqDiff, ↓reduceIte, t1]
     ·simp only [upd_app, Nat.reduceEqDiff, ↓reduceIte, t4]
     ·simp only [upd_app, Nat.reduceEqDiff, ↓reduceIte]
      rfl
     ·rw [all_takeD hx, hal2, inI_iff.2 ⟨by omega, by omega⟩]
      rfl
   ·clear t1 t4
    rintro tm hp ⟨rfl, t1, t4, t5, hal2⟩
    rw [List.take_length] at hal2
    have hlt : ¬ (r.length : Int) < (r.length : Int) := by omega
    refine vcE.ex (by simp (disch := first | assumption | omega) only [go_sem, ↓reduceIte, t5, Nat.reduceEqDiff, t1, ↓q1, t4, i1, ↓p1, hlt, decide_false]; rfl) ?_
    refine .inr ⟨rfl, rfl, ?_, ?_, by rw [hok2]; exact hal2⟩
    ·simp only [upd_app, Nat.reduceEqDiff, ↓reduceIte, t1]
    ·simp only [upd_app, Nat.reduceEqDiff, ↓reduceIte, t4]
  ·clear t1
   rintro tm hp ⟨rfl, t1, t4, hall⟩
   rw [List.take_length] at hall
   refine vcE.ex (by simp (disch := first | assumption | omega) only [go_sem, ↓reduceIte, t4, Nat.reduceEqDiff, t1, ↓q1]; rfl) ?_
   exact .inr ⟨rfl, hall⟩
 ·rintro e tm hp (⟨rfl, hf, h2⟩ | ⟨rfl, hk⟩)
  ·exact ⟨_, by simp only [resE, resEL, resE1, h2]; rfl, by rw [hf]; rfl⟩
  ·refine vcE.ex (by simp (disch := first | assumption | omega) only [go_sem, ↓reduceIte]; rfl) ?_
   refine ⟨_, rfl, ?_⟩
   rw [hk]
   rfl
end
section
open Go Go.Proofs
def A1 : Tab := A0.addO 35 (.cons .dfa .nil) fun p => if p.1.small then some (.rd true (.bool p.1.ok)) else none
theorem A1_ok : TabOk Tryz.prog A1 := by
 refine TabOk.addO A0_ok ?_
 intro p r h
 split at h
 ·rename_i hv; cases h; exact rmay p.1 hv
 ·cases h
theorem A1_may {d : Dfa} (h : d.small) : A1 35 [.agg d.c] = some (.rd true (.bool d.ok)) :=
 (Tab.addO_self _ _ (.cons .dfa .nil) _ (d, ())).trans (if_pos h)
theorem rDCheck (d : Dfa) (hd : d.small) : PCF Tryz.prog 11 [.agg d.c] (.int .i64 (if d.ok then 0 else 2)) := by
 refine pcf_e hmM A1_ok comp11 (by decide) (by simp) (nidL_ok d.a_nid) ?_
 have q0 : pickA (some 3) d.c 0 = some (.agg d.c) := rfl
 have qc : cellsA (.agg d.c) = d.c := rfl
 have k1 := A1_may hd
 cases h : d.ok <;> rw [h] at k1
 ·refine vcE.ex (by simp (disch := first | assumption | omega) only [go_sem, ↓reduceIte, qc, Nat.reduceEqDiff, ↓q0, Dfa.c_frz, k1, Dfa.c_nid]; rfl) ?_
  exact ⟨_, rfl, rfl⟩
 ·refine vcE.ex (by simp (disch := first | assumption | omega) only [go_sem, ↓reduceIte, qc, Nat.reduceEqDiff, ↓q0, Dfa.c_frz, k1, Dfa.c_nid]; rfl) ?_
  exact ⟨_, rfl, rfl⟩
theorem rDRun (d : Dfa) (hd : d.small) (t : List UInt8) (ht : t.length ≤ 1000000) : PCF Tryz.prog 14 [.agg d.c, .str t] (.bool (d.run t)) := by
 refine pcf_e hmM A1_ok comp14 (by decide) (by simp) (nidL_ok (by simp only [nidL, nid, d.c_nid, Bool.and_self])) ?_
 have q0 : pickA none d.c 0 = some (encI.S d.cls) := rfl
 have q1 : pickA none d.c (0 + 1) = some (encR.S d.nxt) := rfl
 have q2 : pickA none d.c (0 + 2) = some (encT.S d.acc) := rfl
 have q3 : pickA (some 3) d.c 0 = some (.agg d.c) := rfl
 have qc : cellsA (.agg d.c) = d.c := rfl
 have k1 := A1_may hd
 unfold Dfa.run
 cases h : d.ok <;> rw [h] at k1
 ·refine vcE.ex (by simp (disch := first | assumption | omega) only [go_sem, ↓reduceIte, qc, Nat.reduceEqDiff, ↓q3, Dfa.c_frz, k1, Dfa.c_nid]; rfl) ?_
  exact ⟨_, rfl, rfl⟩
 have hok := d.ok_iff.1 h
 rw [Bool.true_and]
 refine vcE.step (by simp (disch := first | assumption | omega) only [go_sem, ↓reduceIte, qc]; rfl) (vcE.step (by simp (disch := first | assumption | omega) only [go_sem, ↓reduceIte, Nat.reduceEqDiff, ↓q3, Dfa.c_frz, k1, Dfa.c_nid]; rfl) (vcE.step (by simp (disch := first | assumption | omega) only [go_sem, ↓reduceIte]; rfl) (vcE.then (fun e tm hp => e = .normal ∧ hp = [some (.row 26 d.c)] ∧ tm 2 = .ptr 0 0 ∧ tm 5 = .int .i64 (d.fin t)) ?_ ?_)))
 ·refine vcE.step (by simp (disch := first | assumption | omega) only [go_sem, ↓reduceIte]; rfl) (vcE.block (vcE.count (by intro l tm hp h; simp at h)
   (fun i tm hp => hp = [some (.row 26 d.c)] ∧ tm 1 = .str t ∧ tm 2 = .ptr 0 0 ∧ tm 5 = .int .i64 (d.fin (t.take i)) ∧ tm 6 = .int .i64 i) t.length ⟨rfl, rfl, rfl, rfl, rfl⟩ ?_ ?_))
  ·rintro i tm hp hi ⟨rfl, t1, t2, t5, t6⟩
   obtain ⟨c, hc⟩ : ∃ c, t[i]? = some c := ⟨_, List.getElem?_eq_getElem hi⟩
   have hs := hok.fin_lt (t.take i)
   rw [d.fin_take hc]
   generalize d.fin (t.take i) = s at *
   obtain ⟨r, j, g1, g2, g3, g4⟩ := hok.step hs c
   have i1 : iaddrA 1 (encR.S d.nxt) (.int .i64 s) = some (.fptr (encR.cs d.nxt) (s * 1)) := encR.S_iaddr hs
   have i2 : iaddrA 1 (encI.S d.cls) (.int .u8 c.toNat) = some (.fptr (encI.cs d.cls) (c.toNat * 1)) := encI.S_iaddr (by rw [hok.c]; exact c.toNat_lt)
   have i3 : iaddrA 1 (encI.S r) (.int .i64 j) = some (.fptr (encI.cs r) (j * 1)) := encI.S_iaddr g3
   rw [Nat.mul_one] at i1 i2 i3
   have p1 := encR_at g1
   have p2 := encI_at g2
   have p3 := encI_at g4
   have hwr : IntKind.wrap .i64 ((i : Int) + 1) = (i : Int) + 1 := wrap_i64 (by omega) (by omega)
   refine vcE.ex (by simp (disch := first | assumption | omega) only [go_sem, ↓reduceIte, t6, Nat.reduceEqDiff, t1, t2, ↓q1, t5, i1, ↓p1, ↓q0, hc, i2, ↓p2, i3, ↓p3, hwr]; rfl) ?_
   refine ⟨rfl, ?_, ?_, ?_, ?_⟩
   all_goals simp only [upd_app, Nat.reduceEqDiff, ↓reduceIte, t1, t2]
   all_goals rfl
  ·rintro tm hp ⟨rfl, t1, t2, t5, t6⟩
   rw [List.take_length] at t5
   refine vcE.ex (by simp (disch := first | assumption | omega) only [go_sem, ↓reduceIte, t6, Nat.reduceEqDiff, t1]; rfl) ?_
   refine ⟨rfl, rfl, ?_, ?_⟩
   all_goals simp only [upd_app, Nat.reduceEqDiff, ↓reduceIte, t2, t5]
 ·rintro e tm hp ⟨rfl, rfl, t2, t5⟩
  have hs := hok.fin_lt t
  have ha : d.fin t < d.acc.length := by rw [hok.a]; exact hs
  have i1 : iaddrA 1 (encT.S d.acc) (.int .i64 (d.fin t)) = some (.fptr (encT.cs d.acc) (d.fin t * 1)) := encT.S_iaddr ha
  rw [Nat.mul_one] at i1
  have p1 := encT_at (getD_some (z := false) ha)
  refine vcE.ex (by simp (disch := first | assumption | omega) only [go_sem, ↓reduceIte, t2, ↓q2, Nat.reduceEqDiff, t5, i1, ↓p1]; rfl) ?_
  exact ⟨_, rfl, rfl⟩
theorem A1_same {l : List Int} (m : List Int) (h : l.length ≤ 1000000) : A1 31 [encI.S l, encI.S m] = some (.rd true (.bool (decide (l = m)))) :=
 (Tab.addO_ne _ _ _ _ rfl _).trans (A0_same m h)
theorem dfa_eq {a b : Dfa} : a = b ↔ a.cls = b.cls ∧ a.nxt = b.nxt ∧ a.acc = b.acc := by
 cases a; cases b; simp
theorem rDSame (a b : Dfa) (ha : a.small) (hb : b.small) : PCF Tryz.prog 9 [.agg a.c, .agg b.c] (.bool (decide (a = b))) := by
 refine pcf_e hmM A1_ok comp9 (by decide) (by simp) (nidL_ok (by simp only [nidL, nid, a.c_nid, b.c_nid, Bool.and_self])) ?_
 obtain ⟨a1, a2, a3, a4⟩ := ha
 obtain ⟨b1, b2, b3, b4⟩ := hb
 have q0 : pickA none a.c 0 = some (encI.S a.cls) := rfl
 have q1 : pickA none a.c (0 + 1) = some (encR.S a.nxt) := rfl
 have q2 : pickA none a.c (0 + 2) = some (encT.S a.acc) := rfl
 have qc : cellsA (.agg a.c) = a.c := rfl
 have u0 : pickA none b.c 0 = some (encI.S b.cls) := rfl
 have u1 : pickA none b.c (0 + 1) = some (encR.S b.nxt) := rfl
 have u2 : pickA none b.c (0 + 2) = some (encT.S b.acc) := rfl
 have uc : cellsA (.agg b.c) = b.c := rfl
 have k0 := A1_same (l := a.cls) b.cls a1
 refine vcE.step (by simp (disch := first | assumption | omega) only [go_sem, ↓reduceIte, qc, Nat.reduceEqDiff, uc]; rfl) ?_
 by_cases h1 : a.cls = b.cls
 rotate_left
 ·rw [decide_eq_false h1] at k0
  refine vcE.ex (by simp (disch := first | assumption | omega) only [go_sem, ↓reduceIte, Nat.reduceEqDiff, ↓q0, ↓u0, k0]; rfl) ?_
  exact ⟨_, rfl, by rw [decide_eq_false (fun e => h1 (by rw [e]))]; rfl⟩
 rw [decide_eq_true h1] at k0
 by_cases h2 : a.nxt.length = b.nxt.length
 rotate_left
 ·have h2' : ¬ (a.nxt.length : Int) = (b.nxt.length : Int) := by omega
  refine vcE.ex (by simp (disch := first | assumption | omega) only [go_sem, ↓reduceIte, Nat.reduceEqDiff, ↓q0, ↓u0, k0, ↓q1, ↓u1, h2', decide_false]; rfl) ?_
  exact ⟨_, rfl, by rw [decide_eq_false (fun e => h2 (by rw [e]))]; rfl⟩
 have h2' : (a.nxt.length : Int) = (b.nxt.length : Int) := by omega
 by_cases h3 : a.acc.length = b.acc.length
 rotate_left
 ·have h3' : ¬ (a.acc.length : Int) = (b.acc.length : Int) := by omega
  refine vcE.ex (by simp (disch := first | assumption | omega) only [go_sem, ↓reduceIte, Nat.reduceEqDiff, ↓q0, ↓u0, k0, ↓q1, h2', ↓u1, ↓q2, ↓u2, h3', decide_false]; rfl) ?_
  exact ⟨_, rfl, by rw [decide_eq_false (fun e => h3 (by rw [e]))]; rfl⟩
 have h3' : (a.acc.length : Int) = (b.acc.length : Int) := by omega
 refine vcE.step (by simp (disch := first | assumption | omega) only [go_sem, ↓reduceIte, Nat.reduceEqDiff, ↓q0, ↓u0, k0, ↓q1, h2', ↓u1, ↓q2, h3', ↓u2]; rfl) ?_
 refine vcE.then (fun e tm hp => (e = .ret ∧ a.nxt ≠ b.nxt ∧ tm 4 = .bool false) ∨ (e = .normal ∧ hp = [some (.row 26 a.c), some (.row 26 b.c)] ∧ tm 2 = .ptr 0 0 ∧ tm 3 = .ptr 1 0 ∧ a.nxt = b.nxt)) ?_ ?_
 ·refine vcE.step (by simp (disch := first | assumption | omega) only [go_sem, ↓reduceIte]; rfl) (vcE.block (vcE.count (by intro l tm hp h; simp at h)
   (fun i tm hp => hp = [some (.row 26 a.c), some (.row 26 b.c)] ∧ tm 2 = .ptr 0 0 ∧ tm 3 = .ptr 1 0 ∧ tm 5 = .int .i64 i ∧ a.nxt.take i = b.nxt.take i) a.nxt.length ⟨rfl, rfl, rfl, rfl, rfl⟩ ?_ ?_))
  ·rintro i tm hp hi ⟨rfl, t2, t3, t5, hE⟩
   obtain ⟨r, hr⟩ : ∃ r, a.nxt[i]? = some r := ⟨_, List.getElem?_eq_getElem hi⟩
   obtain ⟨s, hs⟩ : ∃ s, b.nxt[i]? = some s := ⟨_, List.getElem?_eq_getElem (by omega)⟩
   have i1 : iaddrA 1 (encR.S a.nxt) (.int .i64 i) = some (.fptr (encR.cs a.nxt) (i * 1)) := encR.S_iaddr hi
   have i2 : iaddrA 1 (encR.S b.nxt) (.int .i64 i) = some (.fptr (encR.cs b.nxt) (i * 1)) := encR.S_iaddr (by omega)
   rw [Nat.mul_one] at i1 i2
   have p1 := encR_at hr
   have p2 := encR_at hs
   have k1 := A1_same s (a4 r (List.mem_of_getElem? hr))
   have hwr : IntKind.wrap .i64 ((i : Int) + 1) = (i : Int) + 1 := wrap_i64 (by omega) (by omega)
   by_cases hrs : r = s
   ·rw [decide_eq_true hrs] at k1
    refine vcE.ex (by simp (disch := first | assumption | omega) only [go_sem, ↓reduceIte, t5, Nat.reduceEqDiff, t2, ↓q1, i1, ↓p1, t3, ↓u1, i2, ↓p2, k1, hwr]; rfl) ?_
    refine ⟨rfl, ?_, ?_, ?_, take_eqD hE hr (by rw [hrs]; exact hs)⟩
    ·simp only [upd_app, Nat.reduceEqDiff, ↓reduceIte, t2]
    ·simp only [upd_app, Nat.reduceEqDiff, ↓reduceIte, t3]
    ·simp only [upd_app, Nat.reduceEqDiff, ↓reduceIte]; rfl
   ·rw [decide_eq_false hrs] at k1
    refine vcE.ex (by simp (disch := first | assumption | omega) only [go_sem, ↓reduceIte, t5, Nat.reduceEqDiff, t2, ↓q1, i1, ↓p1, t3, ↓u1, i2, ↓p2, k1]; rfl) ?_
    refine .inl ⟨rfl, ?_, ?_⟩
    ·intro e
     rw [e, hs] at hr
     cases hr
     exact hrs rfl
    ·simp only [upd_app, Nat.reduceEqDiff, ↓reduceIte]
  ·rintro tm hp ⟨rfl, t2, t3, t5, hE⟩
   rw [List.take_length, h2, List.take_length] at hE
   refine vcE.ex (by simp (disch := first | assumption | omega) only [go_sem, ↓reduceIte, t5, Nat.reduceEqDiff, t2, ↓q1]; rfl) ?_
   refine .inr ⟨rfl, rfl, ?_, ?_, hE⟩
   ·simp only [upd_app, Nat.reduceEqDiff, ↓reduceIte, t2]
   ·simp only [upd_app, Nat.reduceEqDiff, ↓reduceIte, t3]
 rintro e tm hp (⟨rfl, hne, h4⟩ | ⟨rfl, rfl, t2, t3, hn⟩)
 ·exact ⟨_, by simp only [resE, resEL, resE1, h4]; rfl, by rw [decide_eq_false (fun e => hne (by rw [e]))]; rfl⟩
 refine vcE.then (fun e tm hp => (e = .ret ∧ a.acc ≠ b.acc ∧ tm 4 = .bool false) ∨ (e = .normal ∧ a.acc = b.acc)) ?_ ?_
 ·refine vcE.step (by simp (disch := first | assumption | omega) only [go_sem, ↓reduceIte]; rfl) (vcE.block (vcE.count (by intro l tm hp h; simp at h)
   (fun i tm hp => hp = [some (.row 26 a.c), some (.row 26 b.c)] ∧ tm 2 = .ptr 0 0 ∧ tm 3 = .ptr 1 0 ∧ tm 6 = .int .i64 i ∧ a.acc.take i = b.acc.take i) a.acc.length ⟨rfl, ?_, ?_, rfl, rfl⟩ ?_ ?_))
  ·simp only [upd_app, Nat.reduceEqDiff, ↓reduceIte, t2]
  ·simp only [upd_app, Nat.reduceEqDiff, ↓reduceIte, t3]
  ·clear t2 t3
   rintro i tm hp hi ⟨rfl, t2, t3, t6, hE⟩
   obtain ⟨r, hr⟩ : ∃ r, a.acc[i]? = some r := ⟨_, List.getElem?_eq_getElem hi⟩
   obtain ⟨s, hs⟩ : ∃ s, b.acc[i]? = some s := ⟨_, List.getElem?_eq_getElem (by omega)⟩
   have i1 : iaddrA 1 (encT.S a.acc) (.int .i64 i) = some (.fptr (encT.cs a.acc) (i * 1)) := encT.S_iaddr hi
   have i2 : iaddrA 1 (encT.S b.acc) (.int .i64 i) = some (.fptr (encT.cs b.acc) (i * 1)) := encT.S_iaddr (by omega)
   rw [Nat.mul_one] at i1 i2
   have p1 := encT_at hr
   have p2 := encT_at hs
   have hwr : IntKind.wrap .i64 ((i : Int) + 1) = (i : Int) + 1 := wrap_i64 (by omega) (by omega)
   by_cases hrs : r = s
   ·subst hrs
    have hb : (r != r) = false := by simp
    refine vcE.ex (by simp (disch := first | assumption | omega) only [go_sem, ↓reduceIte, t6, Nat.reduceEqDiff, t2, ↓q2, i1, ↓p1, t3, ↓u2, i2, ↓p2, hwr]; rfl) ?_
    refine ⟨rfl, ?_, ?_, ?_, take_eqD hE hr hs⟩
    ·simp only [upd_app, Nat.reduceEqDiff, ↓reduceIte, t2]
    ·simp only [upd_app, Nat.reduceEqDiff, ↓reduceIte, t3]
    ·simp only [upd_app, Nat.reduceEqDiff, ↓reduceIte]; rfl
   ·have hb : (r != s) = true := by simp [hrs]
    have hb2 : (r == s) = false := by simp [hrs]
    refine vcE.ex (by simp (disch := first | assumption | omega) only [go_sem, ↓reduceIte, t6, Nat.reduceEqDiff, t2, ↓q2, i1, ↓p1, t3, ↓u2, i2, ↓p2, hb2]; rfl) ?_
    refine .inl ⟨rfl, ?_, ?_⟩
    ·intro e
     rw [e, hs] at hr
     cases hr
     exact hrs rfl
    ·simp only [upd_app, Nat.reduceEqDiff, ↓reduceIte]
  ·clear t2 t3
   rintro tm hp ⟨rfl, t2, t3, t6, hE⟩
   rw [List.take_length, h3, List.take_length] at hE
   refine vcE.ex (by simp (disch := first | assumption | omega) only [go_sem, ↓reduceIte, t6, Nat.reduceEqDiff, t2, ↓q2]; rfl) ?_
   exact .inr ⟨rfl, hE⟩
 rintro e tm hp (⟨rfl, hne, h4⟩ | ⟨rfl, ha⟩)
 ·exact ⟨_, by simp only [resE, resEL, resE1, h4]; rfl, by rw [decide_eq_false (fun e => hne (by rw [e]))]; rfl⟩
 ·refine vcE.ex (by simp (disch := first | assumption | omega) only [go_sem, ↓reduceIte]; rfl) ?_
  refine ⟨_, rfl, ?_⟩
  rw [decide_eq_true (dfa_eq.2 ⟨h1, hn, ha⟩)]
  rfl
end
section
open Go Go.Proofs
def hit (q : List UInt8) (f : Bool) (c : UInt8) (k : Nat) : Bool := (q.take k).any fun a => decide (ofB f a = c) && keepB a
theorem hit_step {q : List UInt8} {k : Nat} {a : UInt8} (h : q[k]? = some a) (f : Bool) (c : UInt8) : hit q f c (k + 1) = (hit q f c k || (decide (ofB f a = c) && keepB a)) := by
 rw [hit, List.take_add_one, h, List.any_append]
 simp [hit]
theorem isB_in {ks : List UInt8} {x : UInt8} (h : isB ks x = true) : x ∈ ks := List.mem_of_getElem? (of_decide_eq_true h)
theorem hit_all (q : List UInt8) (f : Bool) (c : UInt8) : hit q f c q.length = isB (keysB q f) c := by
 rw [Bool.eq_iff_iff]
 constructor
 ·intro h
  rw [hit, List.take_length, List.any_eq_true] at h
  obtain ⟨a, ha, h⟩ := h
  simp only [Bool.and_eq_true, decide_eq_true_eq] at h
  refine isB_mem (keysB_rise q f) ((keysB_mem q f c).2 ?_)
  exact List.mem_map.2 ⟨a, List.mem_filter.2 ⟨ha, h.2⟩, h.1⟩
 ·intro h
  obtain ⟨a, ha, hc⟩ := List.mem_map.1 ((keysB_mem q f c).1 (isB_in h))
  obtain ⟨h1, h2⟩ := List.mem_filter.1 ha
  rw [hit, List.take_length, List.any_eq_true]
  exact ⟨a, h1, by rw [hc, h2]; simp⟩
theorem key_fold {q : List UInt8} {f : Bool} {c : UInt8} (h : isB (keysB q f) c = true) : ofB f c = c := by
 obtain ⟨a, ha, hc⟩ := List.mem_map.1 ((keysB_mem q f c).1 (isB_in h))
 rw [← hc, ofB_two]
def valA (ks : List UInt8) (c : UInt8) : Nat := if isB ks c then lowB ks c + 1 else 0
def outA (ks : List UInt8) (n : Nat) : List Int := (List.range 256).map fun c => if c < n then ((valA ks (UInt8.ofNat c) : Nat) : Int) else 0
theorem outA_len (ks : List UInt8) (n : Nat) : (outA ks n).length = 256 := by simp [outA]
theorem outA_zero (ks : List UInt8) : outA ks 0 = List.replicate 256 0 := by
 rw [List.eq_replicate_iff]
 refine ⟨outA_len _ _, fun b hb => ?_⟩
 simp only [outA, List.mem_map, Nat.not_lt_zero, if_false] at hb
 obtain ⟨_, _, h⟩ := hb
 exact h.symm
theorem outA_set (ks : List UInt8) (n : Nat) : (outA ks n).set n ((valA ks (UInt8.ofNat n) : Nat) : Int) = outA ks (n + 1) := by
 apply List.ext_getElem?
 intro j
 by_cases hj : j < 256
 ·rw [List.getElem?_set]
  by_cases hjn : n = j
  ·subst hjn
   rw [if_pos rfl, if_pos (by rw [outA_len]; exact hj)]
   simp [outA, hj]
  ·rw [if_neg hjn]
   simp only [outA, List.getElem?_map, List.getElem?_range hj, Option.map_some]
   congr 1
   by_cases h : j < n
   ·rw [if_pos h, if_pos (by omega)]
   ·rw [if_neg h, if_neg (by omega)]
 ·rw [List.getElem?_eq_none (by rw [List.length_set, outA_len]; omega), List.getElem?_eq_none (by rw [outA_len]; omega)]
theorem outA_same {ks : List UInt8} {n : Nat} (h : isB ks (UInt8.ofNat n) = false) : outA ks n = outA ks (n + 1) := by
 apply List.map_congr_left
 intro j _
 by_cases hj : j < n
 ·rw [if_pos hj, if_pos (by omega)]
 ·rw [if_neg hj]
  by_cases hjn : j = n
  ·subst hjn
   rw [if_pos (by omega), valA, h]
   rfl
  ·rw [if_neg (by omega)]
def someA (ks : List UInt8) (n : Nat) : List UInt8 := ks.filter fun x => decide (x.toNat < n)
theorem someA_zero (ks : List UInt8) : someA ks 0 = [] := by simp [someA]
theorem someA_all (ks : List UInt8) : someA ks 256 = ks := by
 rw [someA, List.filter_eq_self]
 intro a _
 exact decide_eq_true a.toNat_lt
theorem someA_len {ks : List UInt8} {n : Nat} (hn : n < 256) : (someA ks n).length = lowB ks (UInt8.ofNat n) := by
 rw [someA, lowB]
 congr 2
 funext x
 rw [ltB, UInt8.toNat_ofNat', Nat.mod_eq_of_lt (by omega)]
theorem someA_both {n : Nat} (hn : n < 256) : ∀ {ks : List UInt8}, Rise ks → someA ks (n + 1) = someA ks n ++ (if UInt8.ofNat n ∈ ks then [UInt8.ofNat n] else [])
 | [], _ => by simp [someA]
 | x :: xs, h => by
  obtain ⟨h1, h2⟩ := List.pairwise_cons.1 h
  have ih := someA_both hn h2
  have hx : x = UInt8.ofNat n ↔ x.toNat = n := by
   rw [← UInt8.toNat_inj, UInt8.toNat_ofNat', Nat.mod_eq_of_lt (by omega)]
  have hbig : n ≤ x.toNat → someA xs (n + 1) = [] ∧ someA xs n = [] ∧ UInt8.ofNat n ∉ xs := by
   intro hle
   have hall : ∀ y ∈ xs, n + 1 ≤ y.toNat := fun y hy => by
    have := h1 y hy
    simp only [ltB, decide_eq_true_eq] at this
    omega
   refine ⟨?_, ?_, ?_⟩
   ·rw [someA, List.filter_eq_nil_iff]
    intro y hy
    have := hall y hy
    simp; omega
   ·rw [someA, List.filter_eq_nil_iff]
    intro y hy
    have := hall y hy
    simp; omega
   ·intro hm
    have := hall _ hm
    rw [UInt8.toNat_ofNat', Nat.mod_eq_of_lt (by omega)] at this
    omega
  rw [someA, List.filter_cons, someA, List.filter_cons]
  rw [someA, someA] at ih
  by_cases hlt : x.toNat < n
  ·have hne : ¬ UInt8.ofNat n = x := fun e => by have := hx.1 e.symm; omega
   rw [if_pos (by simp; omega), if_pos (by simpa using hlt), ih]
   simp [hne]
  ·obtain ⟨g1, g2, g3⟩ := hbig (by omega)
   rw [someA] at g1 g2
   by_cases he : x.toNat = n
   ·rw [if_pos (by simp; omega), if_neg (by simp; omega), g1, g2, hx.2 he]
    simp
   ·have hne : ¬ UInt8.ofNat n = x := fun e => he (hx.1 e.symm)
    rw [if_neg (by simp; omega), if_neg (by simp; omega), g1, g2]
    simp [hne, g3]
theorem someA_add {ks : List UInt8} (hr : Rise ks) {n : Nat} (hn : n < 256) (h : isB ks (UInt8.ofNat n) = true) : someA ks (n + 1) = someA ks n ++ [UInt8.ofNat n] := by
 rw [someA_both hn hr, if_pos (isB_in h)]
theorem someA_same {ks : List UInt8} (hr : Rise ks) {n : Nat} (hn : n < 256) (h : isB ks (UInt8.ofNat n) = false) : someA ks n = someA ks (n + 1) := by
 rw [someA_both hn hr, if_neg, List.append_nil]
 intro hm
 rw [isB_mem hr hm] at h
 cases h
def outF (ks : List UInt8) (f : Bool) (n : Nat) : List Int := (List.range 256).map fun c => if c < n then ((clsOf ks f (UInt8.ofNat c) : Nat) : Int) else ((valA ks (UInt8.ofNat c) : Nat) : Int)
theorem outF_len (ks : List UInt8) (f : Bool) (n : Nat) : (outF ks f n).length = 256 := by simp [outF]
theorem outF_zero (ks : List UInt8) (f : Bool) : outA ks 256 = outF ks f 0 := by
 apply List.map_congr_left
 intro j hj
 rw [if_pos (List.mem_range.1 hj), if_neg (by omega)]
theorem outF_all (q : List UInt8) (f : Bool) : outF (keysB q f) f 256 = clsL q f := by
 rw [clsL, clsTo, outF]
 apply List.map_congr_left
 intro j hj
 rw [if_pos (List.mem_range.1 hj), if_pos (List.mem_range.1 hj)]
theorem outF_no (ks : List UInt8) (n : Nat) : outF ks false n = outF ks false (n + 1) := by
 apply List.map_congr_left
 intro j _
 have : clsOf ks false (UInt8.ofNat j) = valA ks (UInt8.ofNat j) := rfl
 rw [this]
 simp
theorem outF_get (ks : List UInt8) {n : Nat} {c : UInt8} (h : n ≤ c.toNat) : (outF ks true n)[c.toNat]? = some ((valA ks c : Nat) : Int) := by
 rw [outF, List.getElem?_map, List.getElem?_range c.toNat_lt, Option.map_some, if_neg (by omega), UInt8.ofNat_toNat]
theorem outF_set (ks : List UInt8) (n : Nat) : (outF ks true n).set n ((valA ks (foldB (UInt8.ofNat n)) : Nat) : Int) = outF ks true (n + 1) := by
 apply List.ext_getElem?
 intro j
 by_cases hj : j < 256
 ·rw [List.getElem?_set]
  by_cases hjn : n = j
  ·subst hjn
   rw [if_pos rfl, if_pos (by rw [outF_len]; exact hj)]
   rw [outF, List.getElem?_map, List.getElem?_range hj, Option.map_some, if_pos (by omega)]
   rfl
  ·rw [if_neg hjn]
   simp only [outF, List.getElem?_map, List.getElem?_range hj, Option.map_some]
   congr 1
   by_cases h : j < n
   ·rw [if_pos h, if_pos (by omega)]
   ·rw [if_neg h, if_neg (by omega)]
 ·rw [List.getElem?_eq_none (by rw [List.length_set, outF_len]; omega), List.getElem?_eq_none (by rw [outF_len]; omega)]
theorem foldB_ge (c : UInt8) : c.toNat ≤ (foldB c).toNat := by
 by_cases h : 65 ≤ c.toNat ∧ c.toNat ≤ 90
 ·have := foldB_up h.1 h.2
  omega
 ·rw [foldB_lo (by omega)]
  exact Nat.le_refl _
def zz (q : List UInt8) (f : Bool) : Nat → UInt8
 | 0 => 0
 | j + 1 => if clsOf (keysB q f) f (UInt8.ofNat (255 - j)) = 0 then UInt8.ofNat (255 - j) else zz q f j
theorem zz_at {q : List UInt8} {f : Bool} {c : UInt8} (h : isB (keysB q f) (ofB f c) = false) : ∀ {j : Nat}, j ≤ 256 → 256 - j ≤ c.toNat → isB (keysB q f) (ofB f (zz q f j)) = false
 | 0, hj, hc => by
  have := c.toNat_lt
  omega
 | j + 1, hj, hc => by
  rw [zz]
  by_cases h0 : clsOf (keysB q f) f (UInt8.ofNat (255 - j)) = 0
  ·rw [if_pos h0]
   cases hb : isB (keysB q f) (ofB f (UInt8.ofNat (255 - j))) with
   | false => rfl
   | true =>
    rw [clsOf, if_pos hb] at h0
    omega
  ·rw [if_neg h0]
   by_cases he : c.toNat = 255 - j
   ·exfalso
    apply h0
    rw [← he, UInt8.ofNat_toNat, clsOf, if_neg (by simp [h])]
   ·exact zz_at h (by omega) (by omega)
def smD (q : List UInt8) (f : Bool) : List UInt8 := zz q f 256 :: keysB q f
theorem smD_len (q : List UInt8) (f : Bool) : (smD q f).length = (someL q f).length := by simp [smD, someL]
theorem smD_at {q : List UInt8} {f : Bool} {c0 : UInt8} (h0 : isB (keysB q f) (ofB f c0) = false) {k : Nat} {b : UInt8} (hk : (smD q f)[k]? = some b) : ∃ c : UInt8, (someL q f)[k]? = some (c.toNat : Int) ∧ ∀ i, Gi.takes (sameB f) q i b = Gi.takes (sameB f) q i c := by
 have hr := keysB_rise q f
 have hin : ∀ a ∈ q, keepB a = true → isB (keysB q f) (ofB f a) = true := fun a ha hk => isB_mem hr ((keysB_mem q f _).2 (List.mem_map.2 ⟨a, List.mem_filter.2 ⟨ha, hk⟩, rfl⟩))
 cases k with
 | succ k =>
  rw [smD, List.getElem?_cons_succ] at hk
  refine ⟨b, ?_, fun i => rfl⟩
  rw [someL, List.getElem?_cons_succ, List.getElem?_map, hk]
  rfl
 | zero =>
  rw [smD, List.getElem?_cons_zero, Option.some.injEq] at hk
  have hb : isB (keysB q f) (ofB f b) = false := by
   rw [← hk]
   exact zz_at h0 (Nat.le_refl _) (by omega)
  obtain ⟨c, h1, h2⟩ := zeroTo_at h0 c0.toNat_lt (Nat.le_refl 256)
  refine ⟨c, by rw [someL, List.getElem?_cons_zero, h1], takes_of fun a ha hka => ?_⟩
  have h3 := hin a ha hka
  constructor
  ·intro e
   rw [e, hb] at h3
   cases h3
  ·intro e
   rw [e, h2] at h3
   cases h3
theorem nd_le {α : Type} [BEq α] [LawfulBEq α] : ∀ {l m : List α}, l.Nodup → (∀ x ∈ l, x ∈ m) → l.length ≤ m.length
 | [], m, _, _ => Nat.zero_le _
 | x :: l, m, h, hs => by
  obtain ⟨h1, h2⟩ := List.nodup_cons.1 h
  have hx := hs x (List.mem_cons_self ..)
  have := nd_le (l := l) (m := m.erase x) h2 fun y hy => (List.mem_erase_of_ne (fun e => h1 (by rw [← e]; exact hy))).2 (hs y (List.mem_cons_of_mem _ hy))
  rw [List.length_erase_of_mem hx] at this
  have := List.length_pos_of_mem hx
  rw [List.length_cons]
  omega
theorem some_zero {q : List UInt8} {f : Bool} (h : q.length < 165) : ∃ c : UInt8, isB (keysB q f) (ofB f c) = false := by
 refine Classical.byContradiction fun hno => ?_
 have hall : ∀ n : Nat, n < 256 → (n < 65 ∨ 90 < n) → UInt8.ofNat n ∈ keysB q f := by
  intro n hn hfo
  have h1 : isB (keysB q f) (ofB f (UInt8.ofNat n)) = true := by
   cases hb : isB (keysB q f) (ofB f (UInt8.ofNat n)) with
   | true => rfl
   | false => exact absurd ⟨_, hb⟩ hno
  have h2 := isB_in h1
  have h3 : ofB f (UInt8.ofNat n) = UInt8.ofNat n := by
   cases f
   ·rfl
   ·refine foldB_lo ?_
    rw [UInt8.toNat_ofNat', Nat.mod_eq_of_lt (by omega)]
    exact hfo
  rwa [h3] at h2
 have hsub : ∀ x ∈ ((List.range 165).map fun n => UInt8.ofNat (n + 91)), x ∈ keysB q f := by
  intro x hx
  obtain ⟨n, hn, rfl⟩ := List.mem_map.1 hx
  have := List.mem_range.1 hn
  exact hall _ (by omega) (by omega)
 have hnd : ((List.range 165).map fun n => UInt8.ofNat (n + 91)).Nodup := by decide +kernel
 have hle := nd_le hnd hsub
 rw [List.length_map, List.length_range] at hle
 have := keysB_len q f
 omega
end
section
open Go Go.Proofs
def stD (x : Option (List UInt8 × Bool)) (row : List Int) (c : UInt8) : List Int := lst (nN x) (stepV x (ofS row) c)
def numG (rows : List (List Int)) (r : List Int) : List (List Int) := if plc rows r = rows.length then rows ++ [r] else rows
def nxG (most : Nat) (st : UInt8 → List Int) : List UInt8 → List Int × List (List Int) → Option (List Int × List (List Int))
 | [], s => some s
 | c :: sm, s => if most < (numG s.2 (st c)).length then none else nxG most st sm (s.1 ++ [(plc s.2 (st c) : Int)], numG s.2 (st c))
def bldG (st : List Int → UInt8 → List Int) (ac : List Int → Bool) (sm : List UInt8) (most : Nat) : Nat → Nat → List (List Int) → List (List Int) → List Bool → Option (List (List Int) × List Bool)
 | 0, _, _, _, _ => none
 | k + 1, i, rows, nx, acs => match rows[i]? with
  | none => some (nx, acs)
  | some row => match nxG most (st row) sm ([], rows) with
   | none => none
   | some s => bldG st ac sm most k (i + 1) s.2 (nx ++ [s.1]) (acs ++ [ac row])
def buildD (p : List UInt8) (f : Bool) (most : Int) : Dfa × Bool :=
 if checkG p ≠ 0 ∨ most < 1 ∨ 256 < most then (noDfa, false) else
 match bldG (stD (newV p f)) (accI (newV p f)) (smD (patP (newV p f)) f) most.toNat (most.toNat + 1) 0 [startI (newV p f)] [] [] with
 | some (nx, ac) => (⟨clsL (patP (newV p f)) f, nx, ac⟩, true)
 | none => (noDfa, false)
theorem findK_plc {r : List Int} (hr : row8 r) : ∀ {rows : List (List Int)}, (∀ x ∈ rows, row8 x) → findK (keyI r) rows = if plc rows r < rows.length then some (plc rows r) else none
 | [], _ => rfl
 | a :: rs, h => by
  have ih := findK_plc hr (fun x hx => h x (List.mem_cons_of_mem _ hx))
  rw [findK, plc]
  by_cases e : a = r
  ·rw [if_pos (by rw [e]), if_pos e, if_pos (by simp)]
  ·rw [if_neg fun k => e (keyI_inj hr (h a (List.mem_cons_self ..)) k).symm, if_neg e, ih, List.length_cons]
   by_cases hp : plc rs r < rs.length
   ·rw [if_pos hp, if_pos (by omega)]
    rfl
   ·rw [if_neg hp, if_neg (by omega)]
    rfl
theorem numF_plc {r : List Int} (hr : row8 r) {rows : List (List Int)} (h : ∀ x ∈ rows, row8 x) : numF rows r = (plc rows r, numG rows r) := by
 have hle := plc_le rows r
 unfold numF numG
 rw [findK_plc hr h]
 by_cases hp : plc rows r < rows.length
 ·rw [if_pos hp, if_neg (by omega)]
 ·rw [if_neg hp, if_pos (by omega)]
  rw [show plc rows r = rows.length by omega]
theorem numG_8 {r : List Int} (hr : row8 r) {rows : List (List Int)} (h : ∀ x ∈ rows, row8 x) : ∀ x ∈ numG rows r, row8 x := by
 unfold numG
 split
 ·intro x hx
  rcases List.mem_append.1 hx with h1 | h1
  ·exact h x h1
  ·rw [List.mem_singleton] at h1
   rw [h1]
   exact hr
 ·exact h
theorem numG_len (rows : List (List Int)) (r : List Int) : rows.length ≤ (numG rows r).length := by
 unfold numG
 split
 ·rw [List.length_append]
  omega
 ·exact Nat.le_refl _
def fdR : List (List Int) → List Int × List (List Int) → List Int × List (List Int)
 | [], s => s
 | r :: R, s => fdR R (s.1 ++ [(plc s.2 r : Int)], numG s.2 r)
theorem fdR_len : ∀ (R : List (List Int)) (s : List Int × List (List Int)), s.2.length ≤ (fdR R s).2.length
 | [], s => Nat.le_refl _
 | r :: R, s => by
  rw [fdR]
  have := fdR_len R (s.1 ++ [(plc s.2 r : Int)], numG s.2 r)
  simp only at this
  exact Nat.le_trans (numG_len _ _) this
theorem fdR_eq {st : List Int → Int → List Int} {row : List Int} (h8 : ∀ c, row8 (st row c)) : ∀ (sm : List Int) (s : List Int × List (List Int)), (∀ c ∈ sm, 0 ≤ c) → (∀ x ∈ s.2, row8 x) → sm.foldl (nxF st row) s = fdR (sm.map (st row)) s
 | [], s, _, _ => rfl
 | c :: sm, s, h0, hs => by
  have hc : ¬ c < 0 := by
   have := h0 c (List.mem_cons_self ..)
   omega
  rw [List.foldl_cons, List.map_cons, fdR, nxF, if_neg hc, numF_plc (h8 c) hs]
  exact fdR_eq h8 sm _ (fun d hd => h0 d (List.mem_cons_of_mem _ hd)) (numG_8 (h8 c) hs)
theorem nxG_fdR {most : Nat} {st : UInt8 → List Int} : ∀ (sm : List UInt8) (s : List Int × List (List Int)), s.2.length ≤ most → nxG most st sm s = if (fdR (sm.map st) s).2.length ≤ most then some (fdR (sm.map st) s) else none
 | [], s, h => by rw [nxG, List.map_nil, fdR, if_pos h]
 | c :: sm, s, h => by
  rw [nxG, List.map_cons, fdR]
  by_cases hm : most < (numG s.2 (st c)).length
  ·have := fdR_len (sm.map st) (s.1 ++ [(plc s.2 (st c) : Int)], numG s.2 (st c))
   simp only at this
   rw [if_pos hm, if_neg (by omega)]
  ·rw [if_neg hm]
   exact nxG_fdR sm _ (by simp only; omega)
theorem bldF_stop {st : List Int → Int → List Int} {ac : List Int → Bool} {sm : List Int} {most i : Nat} {rows nx : List (List Int)} {acs : List Bool} (hi : i < rows.length) (hm : most < rows.length) : ∀ k, bldF st ac sm most k i rows nx acs = none
 | 0 => rfl
 | k + 1 => by
  rw [bldF, List.getElem?_eq_getElem hi]
  simp only
  rw [if_pos hm]
theorem bldG_eq {st : List Int → Int → List Int} {sd : List Int → UInt8 → List Int} {ac : List Int → Bool} {sm : List Int} {sb : List UInt8} {most : Nat} (h8 : ∀ row c, row8 (st row c)) (h0 : ∀ c ∈ sm, 0 ≤ c) (hsm : ∀ row, sb.map (sd row) = sm.map (st row)) : ∀ (k i : Nat) (rows nx : List (List Int)) (acs : List Bool), rows.length ≤ most → (∀ x ∈ rows, row8 x) → bldG sd ac sb most k i rows nx acs = bldF st ac sm most k i rows nx acs
 | 0, i, rows, nx, acs, _, _ => rfl
 | k + 1, i, rows, nx, acs, hm, h => by
  rw [bldG, bldF]
  cases hr : rows[i]? with
  | none => rfl
  | some row =>
   have hlt := (List.getElem?_eq_some_iff.1 hr).1
   simp only
   rw [nxG_fdR sb ([], rows) hm, hsm row, if_neg (show ¬ rows.length > most by omega)]
   have hf := fdR_eq (h8 row) sm ([], rows) h0 h
   rw [nextF, hf]
   have h8' : ∀ x ∈ (fdR (sm.map (st row)) ([], rows)).2, row8 x := by
    rw [← hf]
    obtain ⟨nr, tl, e1, e2, _⟩ := next_at (h8 row) sm [] rows (by intro e; rw [e] at hlt; simp at hlt) h
    rw [e1]
    exact e2
   have hge := fdR_len (sm.map (st row)) ([], rows)
   generalize fdR (sm.map (st row)) ([], rows) = s at *
   by_cases hs : s.2.length ≤ most
   ·rw [if_pos hs]
    exact bldG_eq h8 h0 hsm k _ _ _ _ hs h8'
   ·rw [if_neg hs]
    simp only
    simp only at hge
    rw [bldF_stop (by omega) (by omega)]
theorem stepV_takes {q : List UInt8} {f : Bool} {r : Nat → Bool} {b c : UInt8} (h : ∀ i, Gi.takes (sameB f) q i b = Gi.takes (sameB f) q i c) : stepV (some (q, f)) r b = stepV (some (q, f)) r c := leads_takes h
theorem buildD_eq {p : List UInt8} {f : Bool} {most : Int} (hp : p.length ≤ 150) : buildD p f most = buildF p f most := by
 unfold buildD buildF
 by_cases hb : checkG p ≠ 0 ∨ most < 1 ∨ 256 < most
 ·rw [if_pos hb, if_pos hb]
 ·rw [if_neg hb, if_neg hb]
  have hc : checkG p = 0 := Decidable.byContradiction fun h => hb (.inl h)
  have hm : 1 ≤ most := by
   have : ¬ most < 1 := fun h => hb (.inr (.inl h))
   omega
  have hn := newV_n (f := f) hc
  have hpat : patP (newV p f) = normB p := by rw [newV_yes hc]; rfl
  have hql := normB_len p
  obtain ⟨c0, h0⟩ := some_zero (q := patP (newV p f)) (f := f) (by rw [hpat]; omega)
  have hlen := smD_len (patP (newV p f)) f
  have key : bldG (stD (newV p f)) (accI (newV p f)) (smD (patP (newV p f)) f) most.toNat (most.toNat + 1) 0 [startI (newV p f)] [] [] = buildR p f most.toNat := by
   refine bldG_eq (fun row c => lst8 hn) ?_ ?_ _ _ _ _ _ (by simp; omega) ?_
   ·intro c hcm
    rw [someL] at hcm
    rcases List.mem_cons.1 hcm with h | h
    ·obtain ⟨b, h1, _⟩ := zeroTo_at h0 c0.toNat_lt (Nat.le_refl 256)
     rw [h, h1]
     omega
    ·obtain ⟨b, _, rfl⟩ := List.mem_map.1 h
     omega
   ·intro row
    apply List.ext_getElem?
    intro k
    rw [List.getElem?_map, List.getElem?_map]
    cases hk : (smD (patP (newV p f)) f)[k]? with
    | none =>
     have := List.getElem?_eq_none_iff.1 hk
     rw [List.getElem?_eq_none (by omega)]
     rfl
    | some b =>
     obtain ⟨c, h1, h2⟩ := smD_at h0 hk
     rw [h1, Option.map_some, Option.map_some]
     show some (lst (nN (newV p f)) (stepV (newV p f) (ofS row) b)) = some (lst (nN (newV p f)) (stepV (newV p f) (ofS row) (UInt8.ofNat (((c.toNat : Int) % 256).toNat))))
     have hb0 : UInt8.ofNat (((c.toNat : Int) % 256).toNat) = c := by
      have := c.toNat_lt
      rw [show (((c.toNat : Int) % 256).toNat) = c.toNat by omega, UInt8.ofNat_toNat]
     rw [hb0]
     congr 2
     rw [newV_yes hc] at h2 ⊢
     exact stepV_takes h2
   ·intro x hx
    rw [List.mem_singleton] at hx
    rw [hx]
    exact lst8 hn
  rw [key]
  rfl
end
end Go.Gi
