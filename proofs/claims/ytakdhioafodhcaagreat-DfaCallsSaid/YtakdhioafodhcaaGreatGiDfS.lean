/- Tables built: dfa.Build: the plain law, the table. -/
/- Tables built: dfa.Build: what it gives. -/
/- Tables built: dfa.Build: what it gives. -/
/- Tables built: dfa.Build: what it gives. -/
import Derived.Test.YtakdhioafodhcaaGreatGiDfM
set_option linter.unusedVariables false
set_option linter.unusedSimpArgs false
set_option linter.unusedSectionVars false

namespace Go.Gi
section
open Go Go.Proofs
def stepI (x : Option (List UInt8 × Bool)) (row : List Int) (c : Int) : List Int := lst (nN x) (stepV x (ofS row) (UInt8.ofNat (c % 256).toNat))
def startI (x : Option (List UInt8 × Bool)) : List Int := lst (nN x) (startV x)
def accI (x : Option (List UInt8 × Bool)) (row : List Int) : Bool := accV x (ofS row)
theorem lstLen (N : Nat) (b : Nat → Bool) : (lst N b).length ≤ N := by
 have := listTo_len (rowB N b) (rowB N b).length
 rw [rowB_len] at this
 rw [lst, listB, rowB_len]
 exact this
def nxF (st : List Int → Int → List Int) (row : List Int) (s : List Int × List (List Int)) (c : Int) : List Int × List (List Int) :=
 if c < 0 then (s.1 ++ [0], s.2) else (s.1 ++ [((numF s.2 (st row c)).1 : Int)], (numF s.2 (st row c)).2)
def nextF (st : List Int → Int → List Int) (some_ : List Int) (rows : List (List Int)) (row : List Int) : List Int × List (List Int) := some_.foldl (nxF st row) ([], rows)
def bldF (st : List Int → Int → List Int) (ac : List Int → Bool) (some_ : List Int) (most : Nat) : Nat → Nat → List (List Int) → List (List Int) → List Bool → Option (List (List Int) × List Bool)
 | 0, _, _, _, _ => none
 | k + 1, i, rows, nx, acs =>
  match rows[i]? with
  | none => some (nx, acs)
  | some row => if rows.length > most then none else bldF st ac some_ most k (i + 1) (nextF st some_ rows row).2 (nx ++ [(nextF st some_ rows row).1]) (acs ++ [ac row])
def buildR (p : List UInt8) (f : Bool) (most : Nat) : Option (List (List Int) × List Bool) := bldF (stepI (newV p f)) (accI (newV p f)) (someL (patP (newV p f)) f) most (most + 1) 0 [startI (newV p f)] [] []
def noDfa : Dfa := ⟨[], [], []⟩
def buildF (p : List UInt8) (f : Bool) (most : Int) : Dfa × Bool :=
 if checkG p ≠ 0 ∨ most < 1 ∨ 256 < most then (noDfa, false) else
 match buildR p f most.toNat with
 | some (nx, ac) => (⟨clsL (patP (newV p f)) f, nx, ac⟩, true)
 | none => (noDfa, false)
theorem numF_len (rows : List (List Int)) (l : List Int) : (numF rows l).2.length ≤ rows.length + 1 ∧ rows.length ≤ (numF rows l).2.length := by
 unfold numF
 split
 ·exact ⟨Nat.le_succ _, Nat.le_refl _⟩
 ·rw [List.length_append, List.length_singleton]
  omega
theorem numF_ne (rows : List (List Int)) (l : List Int) : (numF rows l).2 ≠ [] := by
 unfold numF
 split
 ·rename_i j h
  intro e
  simp only at e
  rw [e] at h
  cases h
 ·simp
theorem numF_all {rows : List (List Int)} {l : List Int} {B : Nat} (h : ∀ r ∈ rows, r.length ≤ B) (hl : l.length ≤ B) : ∀ r ∈ (numF rows l).2, r.length ≤ B := by
 unfold numF
 split
 ·exact h
 ·intro r hr
  rcases List.mem_append.1 hr with h1 | h1
  ·exact h r h1
  ·rw [List.mem_singleton] at h1
   rw [h1]
   exact hl
def M0 : Tab := (((((Tab.none.addO 17 (.cons .str (.cons .bool .nil)) fun p => if p.1.length ≤ 300 then some (.rd true (.tup [nV (newV p.1 p.2.1), .int .i64 (checkG p.1)])) else none).addR 18 (.cons .nfa .nil) fun p => .rd true (.tup [.str (patP p.1), .bool (patF p.1)])).addO 19 (.cons .str (.cons .bool .nil)) fun p => if p.1.length ≤ 1000 then some (.rd true (.tup [.agg (encI.cs (clsL p.1 p.2.1)), encI.S (someL p.1 p.2.1)])) else none).addO 22 (.cons .nfa .nil) fun p => if okW p.1 then some (.rd true (encI.S (startI p.1))) else none).addO 23 (.cons .nfa (.cons (.S encI) (.cons .byte .nil))) fun p => if okW p.1 ∧ p.2.1.length ≤ 1000000 then some (.rd true (encI.S (lst (nN p.1) (stepV p.1 (ofS p.2.1) p.2.2.1)))) else none).addO 24 (.cons .nfa (.cons (.S encI) .nil)) fun p => if okW p.1 ∧ p.2.1.length ≤ 1000000 then some (.rd true (.bool (accI p.1 p.2.1))) else none
theorem M0_ok : TabOk Tryz.prog M0 := by
 refine TabOk.addO (TabOk.addO (TabOk.addO (TabOk.addO (TabOk.addR (TabOk.addO (TabOk.none _) ?_) ?_) ?_) ?_) ?_) ?_
 ·intro p r h
  split at h
  ·rename_i hv; cases h; exact pNew p.1 p.2.1 hv
  ·cases h
 ·exact fun p => pPatternV p.1
 ·intro p r h
  split at h
  ·rename_i hv; cases h; exact pClasses p.1 p.2.1 hv
  ·cases h
 ·intro p r h
  split at h
  ·rename_i hv; cases h; exact pStartM p.1 hv
  ·cases h
 ·intro p r h
  split at h
  ·rename_i hv; cases h; exact pStepM p.1 hv.1 p.2.1 hv.2 p.2.2.1
  ·cases h
 ·intro p r h
  split at h
  ·rename_i hv; cases h; exact pAccepts p.1 hv.1 p.2.1 hv.2
  ·cases h
theorem M0_acc {x : Option (List UInt8 × Bool)} (h : okW x) {l : List Int} (hl : l.length ≤ 1000000) : M0 24 [nV x, encI.S l] = some (.rd true (.bool (accI x l))) :=
 (Tab.addO_self _ _ (.cons .nfa (.cons (.S encI) .nil)) _ (x, l, ())).trans (if_pos ⟨h, hl⟩)
theorem M0_step {x : Option (List UInt8 × Bool)} (h : okW x) {l : List Int} (hl : l.length ≤ 1000000) (c : UInt8) : M0 23 [nV x, encI.S l, .int .u8 c.toNat] = some (.rd true (encI.S (lst (nN x) (stepV x (ofS l) c)))) :=
 (Tab.addO_ne _ _ _ _ rfl _).trans ((Tab.addO_self _ _ (.cons .nfa (.cons (.S encI) (.cons .byte .nil))) _ (x, l, c, ())).trans (if_pos ⟨h, hl⟩))
theorem M0_start {x : Option (List UInt8 × Bool)} (h : okW x) : M0 22 [nV x] = some (.rd true (encI.S (startI x))) :=
 (Tab.addO_ne _ _ _ _ rfl _).trans ((Tab.addO_ne _ _ _ _ rfl _).trans ((Tab.addO_self _ _ (.cons .nfa .nil) _ (x, ())).trans (if_pos h)))
theorem M0_cls {p : List UInt8} (f : Bool) (h : p.length ≤ 1000) : M0 19 [.str p, .bool f] = some (.rd true (.tup [.agg (encI.cs (clsL p f)), encI.S (someL p f)])) :=
 (Tab.addO_ne _ _ _ _ rfl _).trans ((Tab.addO_ne _ _ _ _ rfl _).trans ((Tab.addO_ne _ _ _ _ rfl _).trans ((Tab.addO_self _ _ (.cons .str (.cons .bool .nil)) _ (p, f, ())).trans (if_pos h))))
theorem M0_pat (x : Option (List UInt8 × Bool)) : M0 18 [nV x] = some (.rd true (.tup [.str (patP x), .bool (patF x)])) :=
 (Tab.addO_ne _ _ _ _ rfl _).trans ((Tab.addO_ne _ _ _ _ rfl _).trans ((Tab.addO_ne _ _ _ _ rfl _).trans ((Tab.addO_ne _ _ _ _ rfl _).trans (Tab.addR_self _ _ (.cons .nfa .nil) _ (x, ())))))
theorem M0_new (p : List UInt8) (f : Bool) (h : p.length ≤ 300) : M0 17 [.str p, .bool f] = some (.rd true (.tup [nV (newV p f), .int .i64 (checkG p)])) :=
 (Tab.addO_ne _ _ _ _ rfl _).trans ((Tab.addO_ne _ _ _ _ rfl _).trans ((Tab.addO_ne _ _ _ _ rfl _).trans ((Tab.addO_ne _ _ _ _ rfl _).trans ((Tab.addR_ne _ _ _ _ rfl _).trans ((Tab.addO_self _ _ (.cons .str (.cons .bool .nil)) _ (p, f, ())).trans (if_pos h))))))
end
section
open Go Go.Proofs
theorem someL_len (p : List UInt8) (f : Bool) : (someL p f).length ≤ p.length + 1 := by
 rw [someL, List.length_cons, List.length_map]
 have := keysB_len p f
 omega
theorem numF_get {rows : List (List Int)} {l r : List Int} {i : Nat} (h : rows[i]? = some r) : (numF rows l).2[i]? = some r := by
 unfold numF
 split
 ·exact h
 ·rw [List.getElem?_append_left (List.getElem?_eq_some_iff.1 h).1]
  exact h
section
variable {x : Option (List UInt8 × Bool)} {rid nxid acid nid lo : Nat} {rows : List (List Int)} {fin : List (Nat × List Int)} {accs : List Bool} {next cls sm : List Int} {ex : Bool} {most : Int}
structure Rv (x : Option (List UInt8 × Bool)) (most : Int) (sm : List Int) (i : Nat) (tm : Env) : Prop where
 t2 : tm 2 = .int .i64 most
 t6 : tm 6 = .ptr 0 0
 t8 : tm 8 = nV x
 t13 : tm 13 = encI.S sm
 t14 : tm 14 = .ptr 2 0
 t16 : tm 16 = .ptr 5 0
 t17 : tm 17 = .func 20 [.ptr 4 0, .ptr 5 0]
 t18 : tm 18 = .int .i64 (i : Int)
theorem row_addr {i : Nat} (hi : i < rows.length) : iaddrA 1 (bld rid rows.length 1) (.int .i64 (i : Int)) = some (.ptr rid i) := by
 rw [bld_pos (by omega)]
 exact iaddr_sl1 hi
theorem bld_inner (hx : okW x) {hp : HP} {tm : Env} {i : Nat} {row : List Int} (hrow : rows[i]? = some row) (hrl : ∀ r ∈ rows, r.length ≤ 1000000) (hn : rows.length + sm.length ≤ 10000) (hb : Bs hp rid rows nxid acid 0 fin accs [] cls lo ex) (hv : Rv x most sm i tm) (t19 : tm 19 = .nils) :
  vcE Tryz.prog (hintL [(25, 7)]) M0 112 (IC.seq (IC.reg r7_16) (IC.block 2 (IC.loop b7_0))) tm hp fun e' tm' hp' => e' = .normal ∧ ∃ rid' nid', Bs hp' rid' (nextF (stepI x) sm rows row).2 nxid acid nid' fin accs (nextF (stepI x) sm rows row).1 cls lo ex ∧ Rv x most sm i tm' ∧ tm' 19 = bld nid' (nextF (stepI x) sm rows row).1.length 1 ∧ (nextF (stepI x) sm rows row).2[i]? = some row ∧ (∀ r ∈ (nextF (stepI x) sm rows row).2, r.length ≤ 1000000) ∧ rows.length ≤ (nextF (stepI x) sm rows row).2.length ∧ (nextF (stepI x) sm rows row).2.length ≤ rows.length + sm.length := by
 obtain ⟨t2, t6, t8, t13, t14, t16, t17, t18⟩ := hv
 have hz : rows ≠ [] := by
  intro e
  rw [e] at hrow
  simp at hrow
 refine vcE.step (by simp (disch := first | assumption | omega) only [go_sem, ↓reduceIte, t13]; rfl) (vcE.block (vcE.loop (by intro l tm hp h; simp at h) (fun k tm' hp' => ∃ (j rid' nid' : Nat) (s : List Int × List (List Int)), k = sm.length - j ∧ j ≤ sm.length ∧ s = (sm.take j).foldl (nxF (stepI x) row) ([], rows) ∧ Bs hp' rid' s.2 nxid acid nid' fin accs s.1 cls lo ex ∧ s.2[i]? = some row ∧ (∀ r ∈ s.2, r.length ≤ 1000000) ∧ rows.length ≤ s.2.length ∧ s.2.length ≤ rows.length + j ∧ s.1.length ≤ j ∧ Rv x most sm i tm' ∧ tm' 19 = bld nid' s.1.length 1 ∧ tm' 69 = encI.S sm ∧ tm' 70 = .int .i64 (sm.length : Int) ∧ tm' 71 = .int .i64 (j : Int)) sm.length ⟨0, rid, 0, ([], rows), rfl, Nat.zero_le _, rfl, hb, hrow, hrl, Nat.le_refl _, Nat.le_refl _, Nat.le_refl _, ⟨?_, ?_, ?_, ?_, ?_, ?_, ?_, ?_⟩, ?_, ?_, ?_, ?_⟩ ?_))
 ·first | (simp only [upd_app, Nat.reduceEqDiff, ↓reduceIte, t2, t6, t8, t13, t14, t16, t17, t18, t19]; done) | (simp only [upd_app, Nat.reduceEqDiff, ↓reduceIte, t2, t6, t8, t13, t14, t16, t17, t18, t19]; rfl)
 ·first | (simp only [upd_app, Nat.reduceEqDiff, ↓reduceIte, t2, t6, t8, t13, t14, t16, t17, t18, t19]; done) | (simp only [upd_app, Nat.reduceEqDiff, ↓reduceIte, t2, t6, t8, t13, t14, t16, t17, t18, t19]; rfl)
 ·first | (simp only [upd_app, Nat.reduceEqDiff, ↓reduceIte, t2, t6, t8, t13, t14, t16, t17, t18, t19]; done) | (simp only [upd_app, Nat.reduceEqDiff, ↓reduceIte, t2, t6, t8, t13, t14, t16, t17, t18, t19]; rfl)
 ·first | (simp only [upd_app, Nat.reduceEqDiff, ↓reduceIte, t2, t6, t8, t13, t14, t16, t17, t18, t19]; done) | (simp only [upd_app, Nat.reduceEqDiff, ↓reduceIte, t2, t6, t8, t13, t14, t16, t17, t18, t19]; rfl)
 ·first | (simp only [upd_app, Nat.reduceEqDiff, ↓reduceIte, t2, t6, t8, t13, t14, t16, t17, t18, t19]; done) | (simp only [upd_app, Nat.reduceEqDiff, ↓reduceIte, t2, t6, t8, t13, t14, t16, t17, t18, t19]; rfl)
 ·first | (simp only [upd_app, Nat.reduceEqDiff, ↓reduceIte, t2, t6, t8, t13, t14, t16, t17, t18, t19]; done) | (simp only [upd_app, Nat.reduceEqDiff, ↓reduceIte, t2, t6, t8, t13, t14, t16, t17, t18, t19]; rfl)
 ·first | (simp only [upd_app, Nat.reduceEqDiff, ↓reduceIte, t2, t6, t8, t13, t14, t16, t17, t18, t19]; done) | (simp only [upd_app, Nat.reduceEqDiff, ↓reduceIte, t2, t6, t8, t13, t14, t16, t17, t18, t19]; rfl)
 ·first | (simp only [upd_app, Nat.reduceEqDiff, ↓reduceIte, t2, t6, t8, t13, t14, t16, t17, t18, t19]; done) | (simp only [upd_app, Nat.reduceEqDiff, ↓reduceIte, t2, t6, t8, t13, t14, t16, t17, t18, t19]; rfl)
 ·first | (simp only [upd_app, Nat.reduceEqDiff, ↓reduceIte, t2, t6, t8, t13, t14, t16, t17, t18, t19]; done) | (simp only [upd_app, Nat.reduceEqDiff, ↓reduceIte, t2, t6, t8, t13, t14, t16, t17, t18, t19]; rfl)
 ·first | (simp only [upd_app, Nat.reduceEqDiff, ↓reduceIte, t2, t6, t8, t13, t14, t16, t17, t18, t19]; done) | (simp only [upd_app, Nat.reduceEqDiff, ↓reduceIte, t2, t6, t8, t13, t14, t16, t17, t18, t19]; rfl)
 ·first | (simp only [upd_app, Nat.reduceEqDiff, ↓reduceIte, t2, t6, t8, t13, t14, t16, t17, t18, t19]; done) | (simp only [upd_app, Nat.reduceEqDiff, ↓reduceIte, t2, t6, t8, t13, t14, t16, t17, t18, t19]; rfl)
 ·first | (simp only [upd_app, Nat.reduceEqDiff, ↓reduceIte, t2, t6, t8, t13, t14, t16, t17, t18, t19]; done) | (simp only [upd_app, Nat.reduceEqDiff, ↓reduceIte, t2, t6, t8, t13, t14, t16, t17, t18, t19]; rfl)
 clear t2 t6 t8 t13 t14 t16 t17 t18 t19 hb hrow hrl
 rintro k tm hp ⟨j, rid', nid', s, rfl, hj, hs, hb, hri, hrl, hn1, hn2, hn3, ⟨t2, t6, t8, t13, t14, t16, t17, t18⟩, t19, t69, t70, t71⟩
 by_cases hlt : j < sm.length
 rotate_left
 ·have hjj : j = sm.length := by omega
  have he : nextF (stepI x) sm rows row = s := by
   rw [hs, hjj, List.take_length]
   rfl
  rw [he]
  refine vcE.ex (by simp (disch := first | assumption | omega) only [go_sem, ↓reduceIte, t71, t70, Int.ofNat_lt, hlt, decide_false]; rfl) ?_
  refine ⟨rfl, rid', nid', hb, ⟨?_, ?_, ?_, ?_, ?_, ?_, ?_, ?_⟩, ?_, hri, hrl, hn1, by omega⟩
  all_goals simp only [upd_app, Nat.reduceEqDiff, ↓reduceIte, t2, t6, t8, t13, t14, t16, t17, t18, t19]
 have hg := List.getElem?_eq_getElem hlt
 generalize sm[j] = c at hg
 have y1 : iaddrA 1 (encI.S sm) (.int .i64 (j : Int)) = some (.fptr (encI.cs sm) j) := encI_iaddr hlt
 have p1 := encI_at hg
 have w1 := natW (x := (j : Int) + 1) (j + 1) (by omega) (by omega)
 have hst : (sm.take (j + 1)).foldl (nxF (stepI x) row) ([], rows) = nxF (stepI x) row s c := by
  rw [List.take_add_one, hg, List.foldl_append, ← hs]
  rfl
 by_cases hc : c < 0
 ·obtain ⟨hp', ha, hb'⟩ := hb.app 0 (by omega)
  have hnx : nxF (stepI x) row s c = (s.1 ++ [0], s.2) := by rw [nxF, if_pos hc]
  refine vcE.ex (by simp (disch := first | assumption | omega) only [go_sem, ↓reduceIte, t71, t70, Int.ofNat_lt, hlt, Nat.reduceEqDiff, t69, ↓y1, ↓p1, hc, t19, ↓ha, w1]; rfl) ?_
  refine ⟨sm.length - (j + 1), by omega, j + 1, rid', hp.length + 1, (s.1 ++ [0], s.2), rfl, by omega, by rw [hst, hnx], hb', hri, hrl, hn1, by simp only; omega, by simp only [List.length_append, List.length_singleton]; omega, ⟨?_, ?_, ?_, ?_, ?_, ?_, ?_, ?_⟩, ?_, ?_, ?_, ?_⟩
  all_goals simp only [upd_app, Nat.reduceEqDiff, ↓reduceIte, t2, t6, t8, t13, t14, t16, t17, t18, t69, t70]
 have hnx : nxF (stepI x) row s c = (s.1 ++ [((numF s.2 (stepI x row c)).1 : Int)], (numF s.2 (stepI x row c)).2) := by rw [nxF, if_neg hc]
 have hzs : s.2 ≠ [] := by
  intro e
  rw [e] at hri
  simp at hri
 have hil : i < s.2.length := (List.getElem?_eq_some_iff.1 hri).1
 have hrowl : row.length ≤ 1000000 := hrl row (List.mem_of_getElem? hri)
 have h5 := hb.met.hb
 have hone := bld_one rid' s.2.length 1
 have y2 := row_addr (rid := rid') hil
 have hrr := (hb.rows_at hzs).2
 have p2 := encR_at hri
 have w8 := wrap8 c
 have hstep := M0_step hx hrowl (UInt8.ofNat (c % 256).toNat)
 have hnf := fun hp => nV_frz x hp
 have hsl : (stepI x row c).length ≤ 1000000 := Nat.le_trans (lstLen _ _) hx.2
 refine vcE.step (by simp (disch := first | assumption | omega) only [go_sem, ↓reduceIte, t71, t70, Int.ofNat_lt, hlt]; rfl) (vcE.step (by simp (disch := first | assumption | omega) only [exC, evE, ty, ↓reduceIte]; rfl) (vcE.then (fun e' tm' hp' => e' = .normal ∧ ∃ rid2 nid2, Bs hp' rid2 (numF s.2 (stepI x row c)).2 nxid acid nid2 fin accs (s.1 ++ [((numF s.2 (stepI x row c)).1 : Int)]) cls lo ex ∧ Rv x most sm i tm' ∧ tm' 19 = bld nid2 (s.1 ++ [((numF s.2 (stepI x row c)).1 : Int)]).length 1 ∧ tm' 69 = encI.S sm ∧ tm' 70 = .int .i64 (sm.length : Int) ∧ tm' 71 = .int .i64 (j : Int)) (vcE.block (vcE.step (by simp (disch := first | assumption | omega) only [go_sem, ↓reduceIte, Nat.reduceEqDiff, t69, t71, ↓y1, ↓p1]; rfl) (vcE.step (by simp (disch := first | assumption | omega) only [go_sem, ↓reduceIte, hc, decide_false]; rfl) ?_))) ?_))
 ·rw [show r7_21 = r7_21.take 10 ++ (r7_21.drop 10).take 1 ++ r7_21.drop 11 from rfl]
  refine vcE.app (vcE.app (vcE.ex (by simp (disch := first | assumption | omega) only [go_sem, ↓reduceIte, Nat.reduceEqDiff, t19, t17, t8, t16, h5, hone, t18, ↓y2, hrr, ↓p2, w8, hnf, hstep]; rfl) ⟨rfl, vcE.call (f := 20) (caps := [.ptr 4 0, .ptr 5 0]) (ys := [encI.S (stepI x row c)]) rfl ?_ (num_calls hb.met hsl (by omega)) ?_⟩))
  ·simp only [evsE, evE, upd_app, Nat.reduceEqDiff, ↓reduceIte, t17]
   rfl
  rintro r hp' ⟨rfl, rid2, hm2, hr2, ho2, hl2⟩
  have hb2 := hb.num (numF_ne _ _) hm2 hr2 ho2 hl2 (fun e => absurd e hzs)
  obtain ⟨hp3, ha, hb3⟩ := hb2.app ((numF s.2 (stepI x row c)).1 : Int) (by omega)
  refine ⟨rfl, vcE.ex (by simp (disch := first | assumption | omega) only [go_sem, ↓reduceIte, Nat.reduceEqDiff, ↓ha]; rfl) ?_⟩
  refine ⟨rfl, rid2, _, hb3, ⟨?_, ?_, ?_, ?_, ?_, ?_, ?_, ?_⟩, ?_, ?_, ?_, ?_⟩
  all_goals simp only [upd_app, Nat.reduceEqDiff, ↓reduceIte, t2, t6, t8, t13, t14, t16, t17, t18, t69, t70, t71]
 ·rintro e' tm' hp' ⟨rfl, rid2, nid2, hb2, ⟨u2, u6, u8, u13, u14, u16, u17, u18⟩, u19, u69, u70, u71⟩
  have hnl := numF_len s.2 (stepI x row c)
  refine vcE.ex (by simp (disch := first | assumption | omega) only [go_sem, ↓reduceIte, u71, w1]; rfl) ?_
  refine ⟨sm.length - (j + 1), by omega, j + 1, rid2, nid2, _, rfl, by omega, by rw [hst, hnx], hb2, numF_get hri, numF_all hrl hsl, by simp only; omega, by simp only; omega, by simp only [List.length_append, List.length_singleton]; omega, ⟨?_, ?_, ?_, ?_, ?_, ?_, ?_, ?_⟩, ?_, ?_, ?_, ?_⟩
  all_goals simp only [upd_app, Nat.reduceEqDiff, ↓reduceIte, u2, u6, u8, u13, u14, u16, u17, u18, u19, u69, u70]
end
end
section
open Go Go.Proofs
theorem clsL_len (p : List UInt8) (f : Bool) : (clsL p f).length = 256 := clsTo_len _ _ _
theorem bld_bad {tm : Env} {hp : HP} (h0 : hp[0]? = some (some (.row 26 [.nils, .nils, .nils]))) (t6 : tm 6 = .ptr 0 0) : vcE Tryz.prog (hintL [(25, 7)]) M0 112 (IC.seq (IC.reg r7_3) IC.ret) tm hp fun e' tm' hp' => e' = .ret ∧ RetE [.cell 6 (some 3), .t 7] (fun r' hp' => FrzN hp' r' (.tup [.agg noDfa.c, .bool false])) .ret tm' hp' := by
 have h0l := (List.getElem?_eq_some_iff.1 h0).1
 have hbst : fillA [(0, 1), (1, 1), (2, 1)] [.nils, .nils, .nils] (([] : List Nat).zip ([] : List AV)) = some [.nils, .nils, .nils] := rfl
 have hst : storeA hp 3 (.ptr 0 0) (.agg [.nils, .nils, .nils]) = some (hp.set 0 (some (.row 26 [.nils, .nils, .nils]))) := by
  simp only [storeA, h0, cellsA]
  rfl
 refine vcE.ex (by simp (disch := first | assumption | omega) only [go_sem, ↓reduceIte, ↓hbst, Nat.reduceEqDiff, t6, ↓hst]; rfl) ?_
 refine ⟨rfl, .tup [.agg [.nils, .nils, .nils], .bool false], ?_, fresh_ok rfl⟩
 simp only [resE, resEL, resE1, upd_app, Nat.reduceEqDiff, ↓reduceIte, t6, loadA, rowA, List.getElem?_set_self h0l]
 rfl
theorem bld_much {tm : Env} {hp : HP} (h0 : hp[0]? = some (some (.row 26 [.nils, .nils, .nils]))) (t6 : tm 6 = .ptr 0 0) : vcE Tryz.prog (hintL [(25, 7)]) M0 112 (IC.seq (IC.reg r7_14) IC.ret) tm hp fun e' tm' hp' => e' = .ret ∧ RetE [.cell 6 (some 3), .t 7] (fun r' hp' => FrzN hp' r' (.tup [.agg noDfa.c, .bool false])) .ret tm' hp' := by
 have h0l := (List.getElem?_eq_some_iff.1 h0).1
 have hbst : fillA [(0, 1), (1, 1), (2, 1)] [.nils, .nils, .nils] (([] : List Nat).zip ([] : List AV)) = some [.nils, .nils, .nils] := rfl
 have hst : storeA hp 3 (.ptr 0 0) (.agg [.nils, .nils, .nils]) = some (hp.set 0 (some (.row 26 [.nils, .nils, .nils]))) := by
  simp only [storeA, h0, cellsA]
  rfl
 refine vcE.ex (by simp (disch := first | assumption | omega) only [go_sem, ↓reduceIte, ↓hbst, Nat.reduceEqDiff, t6, ↓hst]; rfl) ?_
 refine ⟨rfl, .tup [.agg [.nils, .nils, .nils], .bool false], ?_, fresh_ok rfl⟩
 simp only [resE, resEL, resE1, upd_app, Nat.reduceEqDiff, ↓reduceIte, t6, loadA, rowA, List.getElem?_set_self h0l]
 rfl
theorem bldF_row {st : List Int → Int → List Int} {ac : List Int → Bool} {sm : List Int} {most k i : Nat} {rows nx : List (List Int)} {acs : List Bool} {row : List Int} (h : rows[i]? = some row) : bldF st ac sm most (k + 1) i rows nx acs = if rows.length > most then none else bldF st ac sm most k (i + 1) (nextF st sm rows row).2 (nx ++ [(nextF st sm rows row).1]) (acs ++ [ac row]) := by
 rw [bldF, h]
theorem bldF_end {st : List Int → Int → List Int} {ac : List Int → Bool} {sm : List Int} {most k i : Nat} {rows nx : List (List Int)} {acs : List Bool} (h : rows[i]? = none) : bldF st ac sm most (k + 1) i rows nx acs = some (nx, acs) := by
 rw [bldF, h]
theorem bld_outer {x : Option (List UInt8 × Bool)} {sm cls : List Int} {lo mN rid : Nat} {ex : Bool} {rows : List (List Int)} (hx : okW x) (hsm : sm.length ≤ 2000) (hm1 : 1 ≤ mN) (hm2 : mN ≤ 256) {hp : HP} {tm : Env} (hz : rows.length = 1) (hrl : ∀ r ∈ rows, r.length ≤ 1000000) (hb : Bs hp rid rows 6 6 0 [] [] [] cls lo ex) (hv : Rv x mN sm 0 tm) (t7 : tm 7 = .bool false) :
  vcE Tryz.prog (hintL [(25, 7)]) M0 112 (IC.block 0 (IC.loop b7_1)) tm hp fun e' tm' hp' => (e' = .ret ∧ bldF (stepI x) (accI x) sm mN (mN + 1) 0 rows [] [] = none ∧ RetE [.cell 6 (some 3), .t 7] (fun r' hp' => FrzN hp' r' (.tup [.agg noDfa.c, .bool false])) .ret tm' hp') ∨ (e' = .normal ∧ ∃ rid' rows' nxid acid fin accs, bldF (stepI x) (accI x) sm mN (mN + 1) 0 rows [] [] = some (fin.map (·.2), accs) ∧ Bs hp' rid' rows' nxid acid 0 fin accs [] cls lo ex ∧ tm' 6 = .ptr 0 0 ∧ tm' 14 = .ptr 2 0) := by
 refine vcE.block (vcE.loop (by intro l tm hp h; simp at h) (fun k tm' hp' => ∃ (i rid' : Nat) (rows' : List (List Int)) (nxid acid : Nat) (fin : List (Nat × List Int)) (accs : List Bool), k = mN + 1 - i ∧ i ≤ mN ∧ i ≤ rows'.length ∧ rows' ≠ [] ∧ rows'.length ≤ 3000 ∧ (∀ r ∈ rows', r.length ≤ 1000000) ∧ fin.length = i ∧ accs.length = i ∧ bldF (stepI x) (accI x) sm mN (mN + 1 - i) i rows' (fin.map (·.2)) accs = bldF (stepI x) (accI x) sm mN (mN + 1) 0 rows [] [] ∧ Bs hp' rid' rows' nxid acid 0 fin accs [] cls lo ex ∧ Rv x mN sm i tm') (mN + 1) ⟨0, rid, rows, 6, 6, [], [], rfl, by omega, by omega, (fun e => by rw [e] at hz; simp at hz), by omega, hrl, rfl, rfl, rfl, hb, hv⟩ ?_)
 clear hb hv t7 hrl
 rintro k tm hp ⟨i, rid', rows', nxid, acid, fin, accs, rfl, him, hir, hne, hrn, hrl, hfl, hal, hR, hb, hv⟩
 obtain ⟨t2, t6, t8, t13, t14, t16, t17, t18⟩ := hv
 have h5 := hb.met.hb
 have hone := bld_one rid' rows'.length 1
 have hlb := fun hp : HP => bld_len hp rid' rows'.length 1
 have hlf := bld_fits rid' rows'.length 1
 rw [show mN + 1 - i = (mN - i) + 1 by omega] at hR
 by_cases hlt : i < rows'.length
 rotate_left
 ·have hnone : rows'[i]? = none := List.getElem?_eq_none (by omega)
  rw [bldF_end hnone] at hR
  refine vcE.ex (by simp (disch := first | assumption | omega) only [go_sem, ↓reduceIte, t18, Nat.reduceEqDiff, t16, h5, ↓hone, hlf, hlb, Int.ofNat_lt, hlt, decide_false]; rfl) ?_
  refine .inr ⟨rfl, rid', rows', nxid, acid, fin, accs, hR.symm, hb, ?_, ?_⟩
  all_goals simp only [upd_app, Nat.reduceEqDiff, ↓reduceIte, t6, t14]
 have hg := List.getElem?_eq_getElem hlt
 generalize rows'[i] = row at hg
 rw [bldF_row hg] at hR
 refine vcE.step (by simp (disch := first | assumption | omega) only [go_sem, ↓reduceIte, t18, Nat.reduceEqDiff, t16, h5, ↓hone, hlf, hlb, Int.ofNat_lt, hlt]; rfl) ?_
 refine vcE.then (fun e' tm' hp' => (e' = .ret ∧ bldF (stepI x) (accI x) sm mN (mN + 1) 0 rows [] [] = none ∧ RetE [.cell 6 (some 3), .t 7] (fun r' hp' => FrzN hp' r' (.tup [.agg noDfa.c, .bool false])) .ret tm' hp') ∨ (e' = .normal ∧ i < mN ∧ ∃ (rid2 : Nat) (nxid2 acid2 : Nat) (fin2 : List (Nat × List Int)) (accs2 : List Bool), fin2.length = i + 1 ∧ accs2.length = i + 1 ∧ fin2.map (·.2) = fin.map (·.2) ++ [(nextF (stepI x) sm rows' row).1] ∧ accs2 = accs ++ [accI x row] ∧ rows'.length ≤ mN ∧ Bs hp' rid2 (nextF (stepI x) sm rows' row).2 nxid2 acid2 0 fin2 accs2 [] cls lo ex ∧ (∀ r ∈ (nextF (stepI x) sm rows' row).2, r.length ≤ 1000000) ∧ rows'.length ≤ (nextF (stepI x) sm rows' row).2.length ∧ (nextF (stepI x) sm rows' row).2.length ≤ rows'.length + sm.length ∧ Rv x mN sm i tm')) ?_ ?_
 rotate_left
 ·rintro e' tm' hp' (⟨rfl, h1, h2⟩ | ⟨rfl, him2, rid2, nxid2, acid2, fin2, accs2, hf2, ha2, hfm, hac, hle, hb2, hrl2, hge, hub, ⟨u2, u6, u8, u13, u14, u16, u17, u18⟩⟩)
  ·exact .inl ⟨rfl, h1, h2⟩
  ·have w1 := natW (x := (i : Int) + 1) (i + 1) (by omega) (by omega)
   rw [if_neg (by omega)] at hR
   refine vcE.ex (by simp (disch := first | assumption | omega) only [go_sem, ↓reduceIte, u18, w1]; rfl) ?_
   refine ⟨mN - i, by omega, i + 1, rid2, _, nxid2, acid2, fin2, accs2, by omega, by omega, by omega, ?_, by omega, hrl2, hf2, ha2, ?_, hb2, ⟨?_, ?_, ?_, ?_, ?_, ?_, ?_, ?_⟩⟩
   ·intro e
    rw [e] at hge
    simp only [List.length_nil] at hge
    omega
   ·rw [hfm, hac, show mN + 1 - (i + 1) = mN - i by omega]
    exact hR
   all_goals simp only [upd_app, Nat.reduceEqDiff, ↓reduceIte, u2, u6, u8, u13, u14, u16, u17]
 by_cases hmu : rows'.length > mN
 ·rw [if_pos hmu] at hR
  have hmu' : (mN : Int) < ((rows'.length : Nat) : Int) := by omega
  refine vcE.block (vcE.seq (vcE.step (by simp (disch := first | assumption | omega) only [go_sem, ↓reduceIte, Nat.reduceEqDiff, t16, h5, ↓hone, hlf, hlb, t2, hmu']; rfl) (vcE.condTrue (by simp only [evE, upd_app, Nat.reduceEqDiff, ↓reduceIte]) (vcE.mono (bld_much hb.r0 (by simp only [upd_app, Nat.reduceEqDiff, ↓reduceIte, t6])) ?_))))
  rintro e tm hp ⟨rfl, h⟩
  exact .inl ⟨rfl, hR.symm, h⟩
 ·have hmu' : ¬ (mN : Int) < ((rows'.length : Nat) : Int) := by omega
  refine vcE.block (vcE.step (by simp (disch := first | assumption | omega) only [go_sem, ↓reduceIte, Nat.reduceEqDiff, t16, h5, ↓hone, hlf, hlb, t2, hmu', decide_false]; rfl) (vcE.step (by simp (disch := first | assumption | omega) only [go_sem, ↓reduceIte]; rfl) (vcE.then _ (bld_inner (sm := sm) (most := (mN : Int)) hx hg hrl (by omega) hb ⟨?_, ?_, ?_, ?_, ?_, ?_, ?_, ?_⟩ ?_) ?_)))
  ·simp only [upd_app, Nat.reduceEqDiff, ↓reduceIte, t2]
  ·simp only [upd_app, Nat.reduceEqDiff, ↓reduceIte, t6]
  ·simp only [upd_app, Nat.reduceEqDiff, ↓reduceIte, t8]
  ·simp only [upd_app, Nat.reduceEqDiff, ↓reduceIte, t13]
  ·simp only [upd_app, Nat.reduceEqDiff, ↓reduceIte, t14]
  ·simp only [upd_app, Nat.reduceEqDiff, ↓reduceIte, t16]
  ·simp only [upd_app, Nat.reduceEqDiff, ↓reduceIte, t17]
  ·simp only [upd_app, Nat.reduceEqDiff, ↓reduceIte, t18]
  ·simp only [upd_app, Nat.reduceEqDiff, ↓reduceIte]
  clear t2 t6 t8 t13 t14 t16 t17 t18 h5 hone hlb hlf hb
  rintro e' tm hp2 ⟨rfl, rid2, nid2, hb, ⟨t2, t6, t8, t13, t14, t16, t17, t18⟩, t19, hg2, hrl2, hge, hub⟩
  generalize hq : nextF (stepI x) sm rows' row = q at *
  have hq0 : q.2 ≠ [] := by
   intro e
   rw [e] at hg2
   simp at hg2
  obtain ⟨hpA, hpB, a1, a2, a3, hb2⟩ := hb.more hq0 (by omega)
  have r2 := hb.r2
  have hob := bld_one nxid fin.length 1
  have pk1 : pickA none [AV.sl 1 0 256 1 lo ex, bld nxid fin.length 1, bld acid accs.length 1] 1 = some (bld nxid fin.length 1) := by
   simp only [pickA, List.getElem?_cons_succ, List.getElem?_cons_zero]
   rw [if_pos hob]
  have hcel := bld_cells nid2 q.1.length 1
  have hntb : ∀ a b c, notTup (bld a b c) = true := fun a b c => by unfold bld; split <;> rfl
  refine vcE.step (by simp (disch := first | assumption | omega) only [go_sem, ↓reduceIte, t14, r2, ↓pk1, Nat.reduceEqDiff, t19, hntb, hcel, ↓a1, ↓a3]; rfl) ?_
  obtain ⟨hpC, hpD, b1, b2, b3, hb3⟩ := hb2.acc hq0 (by omega) (accI x row)
  have hrowl : row.length ≤ 1000000 := hrl2 row (List.mem_of_getElem? hg2)
  have hacc := M0_acc hx hrowl
  have r22 := hb2.r2
  have h5 := hb2.met.hb
  have hone := bld_one rid2 q.2.length 1
  have y2 := row_addr (rid := rid2) (List.getElem?_eq_some_iff.1 hg2).1
  have hrr := (hb2.rows_at hq0).2
  have p2 := encR_at hg2
  have hnf := fun hp => nV_frz x hp
  have hoc := bld_one acid accs.length 1
  have pk2 : pickA none [AV.sl 1 0 256 1 lo ex, bld (hp2.length + 1) (fin ++ [(nid2, q.1)]).length 1, bld acid accs.length 1] 2 = some (bld acid accs.length 1) := by
   simp only [pickA, List.getElem?_cons_succ, List.getElem?_cons_zero]
   rw [if_pos hoc]
  refine vcE.ex (by simp (disch := first | assumption | omega) only [go_sem, ↓reduceIte, Nat.reduceEqDiff, t14, r22, ↓pk2, t8, t16, h5, ↓hone, t18, ↓y2, hrr, ↓p2, hnf, hacc, ↓b1, ↓b3]; rfl) ?_
  refine .inr ⟨rfl, by omega, rid2, _, _, fin ++ [(nid2, q.1)], accs ++ [accI x row], by simp [hfl], by simp [hal], by simp, rfl, by omega, hb3, hrl2, hge, hub, ⟨?_, ?_, ?_, ?_, ?_, ?_, ?_, ?_⟩⟩
  all_goals simp only [upd_app, Nat.reduceEqDiff, ↓reduceIte, t2, t6, t8, t13, t14, t16, t17, t18]
end
section
open Go Go.Proofs
theorem pBuild (p : List UInt8) (f : Bool) (most : Int) (hl : p.length ≤ 300) (hpat : (patP (newV p f)).length ≤ 1000) : PCF Tryz.prog 7 [.str p, .bool f, .int .i64 most] (.tup [.agg (buildF p f most).1.c, .bool (buildF p f most).2]) := by
 refine pcf_of (nidL_ok rfl) (calls_e hmG M0_ok comp7 (by rfl) (by simp) ?_)
 have hnew := M0_new p f hl
 have hx : okW (newV p f) := newV_ok hl
 unfold c7
 rw [show r7_5 = [⟨some 45, .op (.mov), [.t 10], none⟩, ⟨some 46, .op (.mov), [.t 1], none⟩, ⟨some 47, .call none, [.f 19, .t 45, .t 46], none⟩, ⟨some 44, .op (.mov), [.t 47], none⟩, ⟨some 48, .op (.extract 0), [.t 44], none⟩, ⟨some 49, .op (.extract 1), [.t 44], none⟩, ⟨some 12, .op (.alloc 45 (List.replicate 256 (.int .i64 0))), [], none⟩, ⟨none, .op (.store 256), [.t 12, .t 48], none⟩, ⟨some 13, .op (.mov), [.t 49], none⟩] from by kernel_rfl]
 refine vcE.step (by simp (disch := first | assumption | omega) only [go_sem, ↓reduceIte]; rfl) ?_
 by_cases hbad : checkG p ≠ 0 ∨ most < 1 ∨ 256 < most
 ·have hF : buildF p f most = (noDfa, false) := by rw [buildF, if_pos hbad]
  rw [hF]
  refine vcE.step (by simp (disch := first | assumption | omega) only [go_sem, ↓reduceIte, reduceCtorEq, Nat.reduceEqDiff, hnew]; rfl) ?_
  have hm : ∀ (e' : Exit) (tm' : Env) (hp' : HP), (e' = .ret ∧ RetE [.cell 6 (some 3), .t 7] (fun r' hp' => FrzN hp' r' (.tup [.agg noDfa.c, .bool false])) .ret tm' hp') → (match e' with
    | .normal => False
    | e => RetE [.cell 6 (some 3), .t 7] (fun r' hp' => FrzN hp' r' (.tup [.agg noDfa.c, .bool false])) e tm' hp') := by
   rintro e' tm' hp' ⟨rfl, h⟩
   exact h
  by_cases h1 : checkG p = 0
  rotate_left
  ·refine vcE.seq (vcE.step (by simp (disch := first | assumption | omega) only [go_sem, ↓reduceIte, h1, decide_false, Nat.reduceEqDiff]; rfl) (vcE.condTrue (by simp only [evE, upd_app, Nat.reduceEqDiff, ↓reduceIte]) (vcE.mono (bld_bad rfl ?_) ?_)))
   ·simp only [upd_app, Nat.reduceEqDiff, ↓reduceIte]
   ·rintro e' tm' hp' ⟨rfl, h⟩
    exact h
  ·have h2 : most < 1 ∨ 256 < most := hbad.resolve_left (fun h => h h1)
   by_cases h3 : most < 1
   ·refine vcE.seq (vcE.step (by simp (disch := first | assumption | omega) only [go_sem, ↓reduceIte, h1, Nat.reduceEqDiff, h3]; rfl) (vcE.condTrue (by simp only [evE, upd_app, Nat.reduceEqDiff, ↓reduceIte]) (vcE.mono (bld_bad rfl ?_) ?_)))
    ·simp only [upd_app, Nat.reduceEqDiff, ↓reduceIte]
    ·rintro e' tm' hp' ⟨rfl, h⟩
     exact h
   ·have h4 : 256 < most := h2.resolve_left h3
    refine vcE.seq (vcE.step (by simp (disch := first | assumption | omega) only [go_sem, ↓reduceIte, h1, Nat.reduceEqDiff, h3, decide_false, h4]; rfl) (vcE.condTrue (by simp only [evE, upd_app, Nat.reduceEqDiff, ↓reduceIte]) (vcE.mono (bld_bad rfl ?_) ?_)))
    ·simp only [upd_app, Nat.reduceEqDiff, ↓reduceIte]
    ·rintro e' tm' hp' ⟨rfl, h⟩
     exact h
 have h1 : checkG p = 0 := Decidable.byContradiction fun h => hbad (.inl h)
 have h3 : ¬ most < 1 := fun h => hbad (.inr (.inl h))
 have h4 : ¬ 256 < most := fun h => hbad (.inr (.inr h))
 obtain ⟨mN, rfl⟩ : ∃ mN : Nat, most = (mN : Int) := ⟨most.toNat, by omega⟩
 have hF : buildF p f mN = match buildR p f mN with
   | some (nx, ac) => (⟨clsL (patP (newV p f)) f, nx, ac⟩, true)
   | none => (noDfa, false) := by
  rw [buildF, if_neg hbad, Int.toNat_natCast]
  try rfl
 have hpt := M0_pat (newV p f)
 have hcl := M0_cls f hpat
 have hnf := fun hp => nV_frz (newV p f) hp
 have hcc : (encI.cs (clsL (patP (newV p f)) f)).length = 256 := by rw [encI_len, clsL_len]
 have hsm := someL_len (patP (newV p f)) f
 have hstart := M0_start hx
 rw [h1] at hnew
 unfold buildR at hF
 generalize newV p f = x at *
 generalize clsL (patP x) f = cls at *
 generalize someL (patP x) f = sm at *
 have hst1 : storeA [some (.row 26 [.nils, .nils, .nils]), some (.row 45 (List.replicate 256 (.int .i64 0)))] 256 (.ptr 1 0) (.agg (encI.cs cls)) = some [some (.row 26 [.nils, .nils, .nils]), some (.row 45 (encI.cs cls))] := by
  have ho : over (List.replicate 256 (AV.int .i64 0)) 0 (encI.cs cls) = encI.cs cls := by
   rw [over, List.take_zero, List.nil_append, List.drop_eq_nil_of_le (by rw [List.length_replicate]; omega), List.append_nil]
  have hlr : (List.replicate 256 (AV.int .i64 0)).length = 256 := List.length_replicate
  generalize List.replicate 256 (AV.int .i64 0) = Z at *
  simp only [storeA, List.getElem?_cons_succ, List.getElem?_cons_zero, cellsA, hcc, Nat.zero_add, hlr, Nat.le_refl, and_self, ho, if_true]
  rfl
 have hasl : ∀ (r : Option Blk) (l : HP), asliceA (r :: some (.row 45 (encI.cs cls)) :: l) 256 1 (.ptr 1 0) none none none = some (.sl 1 0 256 1 256 true) := by
  intro r l
  simp only [asliceA, bndA, List.getElem?_cons_succ, List.getElem?_cons_zero, hcc]
  rfl
 have hfil : fillA [(0, 1), (1, 1), (2, 1)] [.nils, .nils, .nils] ([0].zip [.sl 1 0 256 1 256 true]) = some [.sl 1 0 256 1 256 true, .nils, .nils] := rfl
 generalize hZ : List.replicate 256 (AV.int .i64 0) = Z at *
 refine vcE.step (by simp (disch := first | assumption | omega) only [go_sem, ↓reduceIte, reduceCtorEq, Nat.reduceEqDiff, hnew]; rfl) (vcE.step (by simp (disch := first | assumption | omega) only [go_sem, ↓reduceIte, Nat.reduceEqDiff, h3, decide_false, h4]; rfl) (vcE.step (by simp (disch := first | assumption | omega) only [go_sem, ↓reduceIte, Nat.reduceEqDiff, hnf, hpt]; rfl) (vcE.step (by simp (disch := first | assumption | omega) only [go_sem, ↓reduceIte, Nat.reduceEqDiff, hcl, ↓hst1]; rfl) ?_)))
 refine vcE.step (by simp (disch := first | assumption | omega) only [go_sem, ↓reduceIte, Nat.reduceEqDiff, ↓hasl, ↓hfil, Nat.reduceAdd, Nat.reduceLeDiff]; rfl) ?_
 refine vcE.step (by simp (disch := first | assumption | omega) only [go_sem, ↓reduceIte, mkmapA, Nat.reduceAdd, Nat.reduceEqDiff, Nat.reduceLeDiff]; rfl) (vcE.step (by simp (disch := first | assumption | omega) only [go_sem, ↓reduceIte, Nat.reduceAdd]; rfl) (vcE.step (by simp (disch := first | assumption | omega) only [go_sem, ↓reduceIte, Nat.reduceEqDiff]; rfl) ?_))
 have hcs : ∀ cs : List AV, cellsA (.agg cs) = cs := fun _ => rfl
 refine vcE.then (fun e' tm' hp' => e' = .normal ∧ ∃ rid, Bs hp' rid [startI x] 6 6 0 [] [] [] cls 256 true ∧ tm' 2 = .int .i64 (mN : Int) ∧ tm' 6 = .ptr 0 0 ∧ tm' 7 = .bool false ∧ tm' 8 = nV x ∧ tm' 13 = encI.S sm ∧ tm' 14 = .ptr 2 0 ∧ tm' 16 = .ptr 5 0 ∧ tm' 17 = .func 20 [.ptr 4 0, .ptr 5 0]) ?_ ?_
 ·rw [show r7_10 = r7_10.take 3 ++ r7_10.drop 3 from rfl]
  have hm0 : Met [some (.row 26 [.nils, .nils, .nils]), some (.row 45 (encI.cs cls)), some (.row 26 [.sl 1 0 256 1 256 true, .nils, .nils]), some (.map [] [] 0), some (.row 48 [.map 3]), some (.row 23 [.nils])] 4 5 3 6 [] := ⟨rfl, ⟨_, _, rfl⟩, rfl, .inl rfl, by omega, by omega, by omega, by omega, by omega, by omega⟩
  have hb0 : Bs [some (.row 26 [.nils, .nils, .nils]), some (.row 45 (encI.cs cls)), some (.row 26 [.sl 1 0 256 1 256 true, .nils, .nils]), some (.map [] [] 0), some (.row 48 [.map 3]), some (.row 23 [.nils])] 6 [] 6 6 0 [] [] [] cls 256 true := by
   refine ⟨hm0, rfl, rfl, rfl, ?_, Nat.le_refl _⟩
   exact Pcs.nil (Pcs.nil (Pcs.nil (Pcs.nil ⟨fun q hq => absurd hq (List.not_mem_nil), List.Pairwise.nil⟩ _ _) _ _) _ _) _ _
  have hsl : (startI x).length ≤ 1000000 := Nat.le_trans (lstLen _ _) hx.2
  refine vcE.app (vcE.ex (by simp (disch := first | assumption | omega) only [go_sem, ↓reduceIte, Nat.reduceEqDiff, hnf, hstart]; rfl) ⟨rfl, vcE.call (f := 20) (caps := [.ptr 4 0, .ptr 5 0]) (ys := [encI.S (startI x)]) rfl ?_ (num_calls hm0 hsl (by simp)) ?_⟩)
  ·simp only [evsE, evE, upd_app, Nat.reduceEqDiff, ↓reduceIte]
  rintro r hp' ⟨rfl, rid2, hm2, hr2, ho2, hl2⟩
  have hb2 := hb0.num (numF_ne _ _) hm2 hr2 ho2 hl2 (fun _ => ⟨rfl, rfl⟩)
  refine ⟨rfl, rid2, hb2, ?_, ?_, ?_, ?_, ?_, ?_, ?_, ?_⟩
  all_goals first | (simp only [putE, upd_app, Nat.reduceEqDiff, ↓reduceIte]; done) | (simp only [putE, upd_app, Nat.reduceEqDiff, ↓reduceIte]; rfl)
 clear hnew hpt hcl hst1 hasl hfil
 rintro e' tm hp ⟨rfl, rid, hb, t2, t6, t7, t8, t13, t14, t16, t17⟩
 refine vcE.then _ (vcE.step (by simp (disch := first | assumption | omega) only [go_sem, ↓reduceIte]; rfl) (bld_outer (sm := sm) (cls := cls) (mN := mN) hx (by omega) (by omega) (by omega) rfl (fun r hr => by rw [List.mem_singleton] at hr; rw [hr]; exact Nat.le_trans (lstLen _ _) hx.2) hb ⟨?_, ?_, ?_, ?_, ?_, ?_, ?_, ?_⟩ ?_)) ?_
 ·simp only [upd_app, Nat.reduceEqDiff, ↓reduceIte, t2]
 ·simp only [upd_app, Nat.reduceEqDiff, ↓reduceIte, t6]
 ·simp only [upd_app, Nat.reduceEqDiff, ↓reduceIte, t8]
 ·simp only [upd_app, Nat.reduceEqDiff, ↓reduceIte, t13]
 ·simp only [upd_app, Nat.reduceEqDiff, ↓reduceIte, t14]
 ·simp only [upd_app, Nat.reduceEqDiff, ↓reduceIte, t16]
 ·simp only [upd_app, Nat.reduceEqDiff, ↓reduceIte, t17]
 ·simp only [upd_app, Nat.reduceEqDiff, ↓reduceIte]
  rfl
 ·simp only [upd_app, Nat.reduceEqDiff, ↓reduceIte, t7]
 clear t2 t6 t7 t8 t13 t14 t16 t17 hb
 rintro e' tm hp (⟨rfl, hR, h⟩ | ⟨rfl, rid', rows', nxid, acid, fin, accs, hR, hb, t6, t14⟩)
 ·rw [hR] at hF
  rw [hF]
  exact h
 ·rw [hR] at hF
  rw [hF]
  have r0 := hb.r0
  have r2 := hb.r2
  have h0l := (List.getElem?_eq_some_iff.1 r0).1
  have hpk : pickA (some 3) [AV.sl 1 0 256 1 256 true, bld nxid fin.length 1, bld acid accs.length 1] 0 = some (.agg [AV.sl 1 0 256 1 256 true, bld nxid fin.length 1, bld acid accs.length 1]) := rfl
  have hst : storeA hp 3 (.ptr 0 0) (.agg [AV.sl 1 0 256 1 256 true, bld nxid fin.length 1, bld acid accs.length 1]) = some (hp.set 0 (some (.row 26 [AV.sl 1 0 256 1 256 true, bld nxid fin.length 1, bld acid accs.length 1]))) := by
   simp only [storeA, r0, cellsA]
   rfl
  refine vcE.ex (by simp (disch := first | assumption | omega) only [go_sem, ↓reduceIte, t14, r2, ↓hpk, Nat.reduceEqDiff, t6, ↓hst]; rfl) ?_
  refine ⟨.tup [.agg [AV.sl 1 0 256 1 256 true, bld nxid fin.length 1, bld acid accs.length 1], .bool true], ?_, hb.frz (by rw [← encI_len]; exact hcc) (fun k hk => List.getElem?_set_ne (by omega))⟩
  simp only [resE, resEL, resE1, upd_app, Nat.reduceEqDiff, ↓reduceIte, t6, loadA, rowA, List.getElem?_set_self h0l]
  rfl
end
end Go.Gi
