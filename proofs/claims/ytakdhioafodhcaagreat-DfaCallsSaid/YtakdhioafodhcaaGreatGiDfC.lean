/- Tables as plain data: which may be, where a text leads; bytes of one class lead to the same state. No condition. -/
/- Tables in memory: dfa.Check, Run: what they give. -/
/- Tables in memory: dfa.Check, Run, lightDfa: what they give. -/
/- Tables in memory: dfa.through, Run, lightDfa: what they give. -/
import Derived.Test.YtakdhioafodhcaaGreatGiGlB
import Derived.Test.YtakdhioafodhcaaGreatGiSO
set_option linter.unusedVariables false
set_option linter.unusedSimpArgs false
set_option linter.unusedSectionVars false

namespace Go.Gi
section
structure Dfa where
 cls : List Int
 nxt : List (List Int)
 acc : List Bool
 deriving DecidableEq
def inI (n : Nat) (c : Int) : Bool := decide (0 ≤ c) && decide (c < n)
def Dfa.wide (d : Dfa) : Nat := (d.nxt.getD 0 []).length
def Dfa.sized (d : Dfa) : Bool := decide (d.cls.length = 256) && (decide (1 ≤ d.nxt.length) && (decide (d.nxt.length ≤ 256) && (decide (d.acc.length = d.nxt.length) && decide (1 ≤ d.wide))))
def okRow (w n : Nat) (r : List Int) : Bool := decide (r.length = w) && r.all (inI n)
def Dfa.ok (d : Dfa) : Bool := d.sized && (d.cls.all (inI d.wide) && d.nxt.all (okRow d.wide d.nxt.length))
def Dfa.go (d : Dfa) (s : Nat) (c : UInt8) : Nat := ((d.nxt.getD s []).getD (d.cls.getD c.toNat 0).toNat 0).toNat
def Dfa.fin (d : Dfa) (t : List UInt8) : Nat := t.foldl d.go 0
def Dfa.takes (d : Dfa) (t : List UInt8) : Bool := d.acc.getD (d.fin t) false
def Dfa.run (d : Dfa) (t : List UInt8) : Bool := d.ok && d.takes t
theorem inI_iff {n : Nat} {c : Int} : inI n c = true ↔ 0 ≤ c ∧ c < n := by simp [inI]
structure Dfa.Ok (d : Dfa) : Prop where
 c : d.cls.length = 256
 n1 : 1 ≤ d.nxt.length
 n2 : d.nxt.length ≤ 256
 a : d.acc.length = d.nxt.length
 w : 1 ≤ d.wide
 cl : ∀ x ∈ d.cls, 0 ≤ x ∧ x < d.wide
 row : ∀ r ∈ d.nxt, r.length = d.wide ∧ ∀ s ∈ r, 0 ≤ s ∧ s < d.nxt.length
theorem Dfa.ok_iff (d : Dfa) : d.ok = true ↔ d.Ok := by
 constructor
 ·intro h
  simp only [Dfa.ok, Dfa.sized, Bool.and_eq_true, decide_eq_true_eq, List.all_eq_true, okRow, inI_iff] at h
  obtain ⟨⟨h1, h2, h3, h4, h5⟩, h6, h7⟩ := h
  exact ⟨h1, h2, h3, h4, h5, h6, h7⟩
 ·rintro ⟨h1, h2, h3, h4, h5, h6, h7⟩
  simp only [Dfa.ok, Dfa.sized, Bool.and_eq_true, decide_eq_true_eq, List.all_eq_true, okRow, inI_iff]
  exact ⟨⟨h1, h2, h3, h4, h5⟩, h6, h7⟩
theorem getD_mem {α : Type} {l : List α} {i : Nat} {z : α} (h : i < l.length) : l.getD i z ∈ l := by
 rw [List.getD_eq_getElem?_getD, List.getElem?_eq_getElem h]
 exact List.getElem_mem h
theorem Dfa.Ok.cls_lt {d : Dfa} (h : d.Ok) (c : UInt8) : 0 ≤ d.cls.getD c.toNat 0 ∧ d.cls.getD c.toNat 0 < d.wide := h.cl _ (getD_mem (by rw [h.c]; exact c.toNat_lt))
theorem Dfa.Ok.go_at {d : Dfa} (h : d.Ok) {s : Nat} (hs : s < d.nxt.length) (c : UInt8) : 0 ≤ (d.nxt.getD s []).getD (d.cls.getD c.toNat 0).toNat 0 ∧ (d.nxt.getD s []).getD (d.cls.getD c.toNat 0).toNat 0 < d.nxt.length := by
 obtain ⟨h1, h2⟩ := h.row (d.nxt.getD s []) (getD_mem hs)
 have h3 := h.cls_lt c
 exact h2 _ (getD_mem (by omega))
theorem Dfa.Ok.go_lt {d : Dfa} (h : d.Ok) {s : Nat} (hs : s < d.nxt.length) (c : UInt8) : d.go s c < d.nxt.length := by
 have := h.go_at hs c
 unfold Dfa.go
 omega
theorem Dfa.Ok.fold_lt {d : Dfa} (h : d.Ok) : ∀ (t : List UInt8) {s : Nat}, s < d.nxt.length → t.foldl d.go s < d.nxt.length
 | [], s, hs => hs
 | c :: t, s, hs => h.fold_lt t (h.go_lt hs c)
theorem Dfa.Ok.fin_lt {d : Dfa} (h : d.Ok) (t : List UInt8) : d.fin t < d.nxt.length := h.fold_lt t h.n1
def Dfa.mix (d : Dfa) : List UInt8 → List UInt8 → List UInt8
 | x :: a, y :: b => (if d.cls.getD x.toNat 0 = d.cls.getD y.toNat 0 then y else x) :: d.mix a b
 | a, _ => a
end
section
open Go Go.Proofs
theorem hmM : Tryz.prog.follows .mixedOrders = true := hmG
def encR : Enc (List Int) where
 c l := [encI.S l]
 sz := 1
 pos := by omega
 len _ := rfl
 nd l := by simp only [nidL, Enc.S_nid, Bool.and_self]
 ip := false
 pl h := by cases h
 fz hp l := by simp only [frzL, Enc.S_frz]
 dec := fun
  | [x] => encI.un x
  | _ => none
 dec_c l := encI.un_S l
 dec_some cs a h := by
  split at h
  ·rw [encI.un_some h]
  ·cases h
def elI : El Int where
 E := encI
 v n := .int .i64 n
 sh := none
 K := .prim
 pk := fun {l i a} h => by
  have := encI.pick1 (l := l) rfl h (v := .int .i64 a) rfl rfl
  simpa [encI] using this
 nt _ := rfl
 ce _ := rfl
 nv _ := rfl
 fz _ _ := rfl
 eq a b := by simp [binA, intA]
 ne a b := by simp [binA, intA, bne]
theorem encI_at {l : List Int} {i : Nat} {n : Int} (h : l[i]? = some n) : pickA none (encI.cs l) i = some (.int .i64 n) :=
 encI.pick1 (l := l) rfl h (v := .int .i64 n) rfl rfl
theorem encR_at {l : List (List Int)} {i : Nat} {r : List Int} (h : l[i]? = some r) : pickA none (encR.cs l) i = some (encI.S r) :=
 encR.pick1 (l := l) rfl h (v := encI.S r) rfl rfl
theorem encT_at {l : List Bool} {i : Nat} {r : Bool} (h : l[i]? = some r) : pickA none (encT.cs l) i = some (.bool r) :=
 encT.pick1 (l := l) rfl h (v := .bool r) rfl rfl
def Dfa.c (d : Dfa) : List AV := [encI.S d.cls, encR.S d.nxt, encT.S d.acc]
theorem Dfa.c_nid (d : Dfa) : nidL d.c = true := by simp only [Dfa.c, nidL, Enc.S_nid, Bool.and_self]
theorem Dfa.c_frz (d : Dfa) (hp : HP) : frzL hp d.c = some d.c := by simp only [Dfa.c, frzL, Enc.S_frz]
theorem Dfa.a_nid (d : Dfa) : nidL [.agg d.c] = true := by simp only [nidL, nid, d.c_nid, Bool.and_self]
def R1.dfa : R1 Dfa where
 v d := .agg d.c
 un := fun
  | .agg [x, y, z] => match encI.un x, encR.un y, encT.un z with
   | some a, some b, some c => some ⟨a, b, c⟩
   | _, _, _ => none
  | _ => none
 un_v d := by simp only [Dfa.c, Enc.un_S]
 un_some x d h := by
  split at h
  ·split at h
   ·rename_i h1 h2 h3
    cases h
    rw [encI.un_some h1, encR.un_some h2, encT.un_some h3]
    rfl
   ·cases h
  ·cases h
theorem pNeg1 (x : Int) (w : Nat) : PCF Tryz.prog 33 [.int .i64 x, .fptr [.int .i64 w] 0] (.bool (!inI w x)) := by
 refine pcf_e hmM (TabOk.none _) comp33 (by decide) (by simp) (nidL_ok rfl) ?_
 unfold inI
 by_cases h : x < 0
 ·refine vcE.ex (by simp (disch := first | assumption | omega) only [go_sem, ↓reduceIte, reduceCtorEq, h, Nat.reduceEqDiff]; rfl) ?_
  refine ⟨_, rfl, ?_⟩
  rw [decide_eq_false (show ¬ 0 ≤ x by omega)]
  rfl
 ·by_cases h2 : x < w
  all_goals refine vcE.ex (by simp (disch := first | assumption | omega) only [go_sem, ↓reduceIte, reduceCtorEq, h, ge_iff_le]; rfl) ?_
  all_goals refine ⟨_, rfl, ?_⟩
  ·have h3 : ¬ ((w : Nat) : Int) ≤ x := by omega
   simp only [decide_false, h3, upd_app, ↓reduceIte, fresh_bool, show 0 ≤ x by omega, decide_true, h2, Bool.and_self, Bool.not_true]
  ·have h3 : ((w : Nat) : Int) ≤ x := by omega
   simp only [decide_false, h3, decide_true, upd_app, ↓reduceIte, fresh_bool, show 0 ≤ x by omega, h2, Bool.and_false, Bool.not_false]
theorem pNeg2 (x : Int) (d : Dfa) : PCF Tryz.prog 34 [.int .i64 x, .fptr d.c 0] (.bool (!inI d.nxt.length x)) := by
 refine pcf_e hmM (TabOk.none _) comp34 (by decide) (by simp) (nidL_ok (by simp only [nidL, nid, d.c_nid, Bool.and_self])) ?_
 have hq : pickA none d.c (0 + 1) = some (encR.S d.nxt) := rfl
 unfold inI
 by_cases h : x < 0
 ·refine vcE.ex (by simp (disch := first | assumption | omega) only [go_sem, ↓reduceIte, reduceCtorEq, h, Nat.reduceEqDiff]; rfl) ?_
  refine ⟨_, rfl, ?_⟩
  rw [decide_eq_false (show ¬ 0 ≤ x by omega)]
  rfl
 ·by_cases h2 : x < d.nxt.length
  all_goals refine vcE.ex (by simp (disch := first | assumption | omega) only [go_sem, ↓reduceIte, reduceCtorEq, h, ge_iff_le]; rfl) ?_
  all_goals refine ⟨_, rfl, ?_⟩
  ·have h3 : ¬ ((d.nxt.length : Nat) : Int) ≤ x := by omega
   simp only [decide_false, h3, upd_app, ↓reduceIte, fresh_bool, show 0 ≤ x by omega, decide_true, h2, Bool.and_self, Bool.not_true]
  ·have h3 : ((d.nxt.length : Nat) : Int) ≤ x := by omega
   simp only [decide_false, h3, decide_true, upd_app, ↓reduceIte, fresh_bool, show 0 ≤ x by omega, h2, Bool.and_false, Bool.not_false]
def R1.neg : R1 (Nat ⊕ Dfa) where
 v := fun
  | .inl w => .func 33 [.fptr [.int .i64 w] 0]
  | .inr d => .func 34 [.fptr d.c 0]
 un := fun
  | .func g [.fptr [.int .i64 w] 0] => if g = 33 ∧ 0 ≤ w then some (.inl w.toNat) else none
  | .func g [.fptr cs 0] => if g = 34 then (R1.dfa.un (.agg cs)).map .inr else none
  | _ => none
 un_v := fun
  | .inl w => by
   show (if _ then _ else _) = _
   rw [if_pos ⟨rfl, by omega⟩]
   rfl
  | .inr d => by
   show (if 34 = 34 then _ else _) = _
   rw [if_pos rfl]
   have := R1.dfa.un_v d
   show Option.map Sum.inr (R1.dfa.un (R1.dfa.v d)) = _
   rw [this]
   rfl
 un_some x a h := by
  split at h
  ·split at h
   ·rename_i w hw
    obtain ⟨rfl, hw⟩ := hw
    cases h
    show _ = AV.func _ [.fptr [.int .i64 ((w.toNat : Nat) : Int)] 0]
    rw [Int.toNat_of_nonneg hw]
   ·cases h
  ·split at h
   ·rename_i hg
    subst hg
    cases hd : R1.dfa.un (.agg ‹List AV›) with
    | none => rw [hd] at h; cases h
    | some d =>
     rw [hd] at h
     cases h
     have := R1.dfa.un_some _ _ hd
     show _ = AV.func _ [.fptr d.c 0]
     injection this with e
     rw [e]
   ·cases h
  ·cases h
def negP : Nat ⊕ Dfa → Int → Bool
 | .inl w, x => !inI w x
 | .inr d, x => !inI d.nxt.length x
def R1.nat : R1 Nat where
 v n := .int .i64 n
 un := fun
  | .int .i64 n => if 0 ≤ n then some n.toNat else none
  | _ => none
 un_v n := by
  show (if (0 : Int) ≤ (n : Int) then some (n : Int).toNat else none) = some n
  rw [if_pos (by omega), Int.toNat_natCast]
 un_some x n h := by
  split at h
  ·split at h
   ·rename_i h0
    cases h
    rw [Int.toNat_of_nonneg h0]
   ·cases h
  ·cases h
def R1.pdfa : R1 Dfa where
 v d := .fptr d.c 0
 un := fun
  | .fptr cs 0 => R1.dfa.un (.agg cs)
  | _ => none
 un_v d := R1.dfa.un_v d
 un_some x d h := by
  split at h
  ·have := R1.dfa.un_some _ _ h
   injection this with e
   rw [e]
  ·cases h
def D0 : Tab := (Tab.none.addR 33 (.cons .i64 (.cons (.fp1 .nat) .nil)) fun p => .rd true (.bool (!inI p.2.1 p.1))).addR 34 (.cons .i64 (.cons .pdfa .nil)) fun p => .rd true (.bool (!inI p.2.1.nxt.length p.1))
theorem D0_ok : TabOk Tryz.prog D0 := by
 refine TabOk.addR (TabOk.addR (TabOk.none _) ?_) ?_
 ·exact fun p => pNeg1 p.1 p.2.1
 ·exact fun p => pNeg2 p.1 p.2.1
theorem D0_1 (x : Int) (w : Nat) : D0 33 [.int .i64 x, .fptr [.int .i64 w] 0] = some (.rd true (.bool (!inI w x))) :=
 (Tab.addR_ne _ _ _ _ rfl _).trans (Tab.addR_self _ _ (.cons .i64 (.cons (.fp1 .nat) .nil)) _ (x, w, ()))
theorem D0_2 (x : Int) (d : Dfa) : D0 34 [.int .i64 x, .fptr d.c 0] = some (.rd true (.bool (!inI d.nxt.length x))) :=
 Tab.addR_self _ _ (.cons .i64 (.cons .pdfa .nil)) _ (x, d, ())
theorem negV (p : Nat ⊕ Dfa) : ∃ g cs, R1.neg.v p = .func g [.fptr cs 0] ∧ nidL cs = true ∧ (∀ hp, frzL hp [.fptr cs 0] = some [.fptr cs 0]) ∧ ∀ x, D0 g [.int .i64 x, .fptr cs 0] = some (.rd true (.bool (negP p x))) := by
 cases p with
 | inl w => exact ⟨_, _, rfl, rfl, fun _ => rfl, fun x => D0_1 x w⟩
 | inr d => exact ⟨_, _, rfl, d.c_nid, fun hp => by simp only [frzL, frz, d.c_nid, if_true], fun x => D0_2 x d⟩
theorem pIdx (l : List Int) (hl : l.length ≤ 4611686018427387904) (p : Nat ⊕ Dfa) : PCF Tryz.prog 60 [encI.S l, R1.neg.v p] (.int .i64 (idx (negP p) l)) := by
 obtain ⟨g, cs, h1, h2, h3, h4⟩ := negV p
 rw [h1]
 exact indexL_pc hmM D0_ok elI comp60 h3 (by simp only [nidL, nid, h2, Bool.and_self]) hl fun a _ => h4 a
def D1 : Tab := D0.addO 60 (.cons (.S encI) (.cons .neg .nil)) fun p => if p.1.length ≤ 4611686018427387904 then some (.rd true (.int .i64 (idx (negP p.2.1) p.1))) else none
theorem D1_ok : TabOk Tryz.prog D1 := by
 refine TabOk.addO D0_ok ?_
 intro p r h
 split at h
 ·rename_i hv; cases h; exact pIdx p.1 hv p.2.1
 ·cases h
theorem pHas (l : List Int) (hl : l.length ≤ 4611686018427387904) (p : Nat ⊕ Dfa) : PCF Tryz.prog 32 [encI.S l, R1.neg.v p] (.bool (l.any (negP p))) := by
 have h0 : D1 60 [encI.S l, R1.neg.v p] = _ := (Tab.addO_self _ _ (.cons (.S encI) (.cons .neg .nil)) _ (l, p, ())).trans (if_pos hl)
 obtain ⟨g, cs, h1, h2, h3, h4⟩ := negV p
 rw [h1] at h0 ⊢
 rw [← idx_ge]
 refine contains_pc hmM D1_ok comp32 (encI.S_nid l) (by simp only [nid, nidL, h2, Bool.and_self]) (encI.S_frz _ l) ?_ h0
 have := h3 []
 rw [frz_func, this]
def D2 : Tab := D1.addO 32 (.cons (.S encI) (.cons .neg .nil)) fun p => if p.1.length ≤ 4611686018427387904 then some (.rd true (.bool (p.1.any (negP p.2.1)))) else none
theorem D2_ok : TabOk Tryz.prog D2 := by
 refine TabOk.addO D1_ok ?_
 intro p r h
 split at h
 ·rename_i hv; cases h; exact pHas p.1 hv p.2.1
 ·cases h
theorem D2_has {l : List Int} (hl : l.length ≤ 4611686018427387904) (p : Nat ⊕ Dfa) : D2 32 [encI.S l, R1.neg.v p] = some (.rd true (.bool (l.any (negP p)))) :=
 (Tab.addO_self _ _ (.cons (.S encI) (.cons .neg .nil)) _ (l, p, ())).trans (if_pos hl)
end
section
open Go Go.Proofs
abbrev roomy : Nat := 4611686018427387904
def Dfa.fits (d : Dfa) : Bool := d.nxt.all fun r => decide (r.length ≤ roomy)
theorem Dfa.fits_row {d : Dfa} (h : d.fits = true) {r : List Int} (hr : r ∈ d.nxt) : r.length ≤ roomy := by
 have := List.all_eq_true.1 h r hr
 exact of_decide_eq_true this
theorem any_neg (l : List Int) (n : Nat) : l.any (negP (.inl n)) = !l.all (inI n) := by
 rw [Bool.eq_iff_iff]
 simp [negP]
theorem any_negD (l : List Int) (d : Dfa) : l.any (negP (.inr d)) = !l.all (inI d.nxt.length) := by
 rw [Bool.eq_iff_iff]
 simp [negP]
theorem all_takeD {α : Type} {p : α → Bool} {l : List α} {i : Nat} {a : α} (h : l[i]? = some a) : (l.take (i + 1)).all p = ((l.take i).all p && p a) := by
 simp [List.take_add_one, h]
theorem all_falseD {α : Type} {p : α → Bool} {l : List α} {i : Nat} {a : α} (h : l[i]? = some a) (ha : p a = false) : l.all p = false := by
 rw [List.all_eq_false]
 exact ⟨a, List.mem_of_getElem? h, by simp [ha]⟩
theorem pDCheck (d : Dfa) (hf : d.fits = true) : PCF Tryz.prog 10 [.agg d.c] (.int .i64 (if d.ok then 0 else 2)) := by
 refine pcf_e hmM D2_ok comp10 (by decide) (by simp) (nidL_ok d.a_nid) ?_
 have q0 : pickA none d.c 0 = some (encI.S d.cls) := rfl
 have q1 : pickA none d.c (0 + 1) = some (encR.S d.nxt) := rfl
 have q2 : pickA none d.c (0 + 2) = some (encT.S d.acc) := rfl
 have qc : cellsA (.agg d.c) = d.c := rfl
 have bad : ∀ {tm : Env} {hp : HP}, d.ok = false → tm 2 = .int .i64 2 → RetE [.t 2] (fun r' hp' => fresh hp' r' = some (.int .i64 (if d.ok = true then 0 else 2))) .ret tm hp := by
  intro tm hp h h2
  exact ⟨_, by simp only [resE, resEL, resE1, h2]; rfl, by rw [h]; rfl⟩
 have sz : ∀ {b : Bool}, d.sized = b → b = false → d.ok = false := fun h h2 => by rw [Dfa.ok, h, h2, Bool.false_and]
 by_cases h1 : d.cls.length = 256
 rotate_left
 ·refine vcE.ex (by simp (disch := first | assumption | omega) only [go_sem, ↓reduceIte, qc, Nat.reduceEqDiff, ↓q0]; rfl) ?_
  exact bad (sz rfl (by simp [Dfa.sized, h1])) rfl
 by_cases h2 : 1 ≤ d.nxt.length
 rotate_left
 ·refine vcE.ex (by simp (disch := first | assumption | omega) only [go_sem, ↓reduceIte, qc, Nat.reduceEqDiff, ↓q0, ↓q1]; rfl) ?_
  exact bad (sz rfl (by simp [Dfa.sized, h2])) rfl
 by_cases h3 : d.nxt.length ≤ 256
 rotate_left
 ·refine vcE.ex (by simp (disch := first | assumption | omega) only [go_sem, ↓reduceIte, qc, Nat.reduceEqDiff, ↓q0, ↓q1]; rfl) ?_
  exact bad (sz rfl (by simp [Dfa.sized, h3])) rfl
 by_cases h4 : d.acc.length = d.nxt.length
 rotate_left
 ·refine vcE.ex (by simp (disch := first | assumption | omega) only [go_sem, ↓reduceIte, qc, Nat.reduceEqDiff, ↓q0, ↓q1, ↓q2]; rfl) ?_
  exact bad (sz rfl (by simp [Dfa.sized, h4])) rfl
 obtain ⟨r0, hr0⟩ : ∃ r, d.nxt[0]? = some r := ⟨_, List.getElem?_eq_getElem h2⟩
 have hw : d.wide = r0.length := by rw [Dfa.wide, List.getD_eq_getElem?_getD, hr0]; rfl
 have hia : iaddrA 1 (encR.S d.nxt) (.int .i64 0) = some (.fptr (encR.cs d.nxt) 0) := encR.S_iaddr (i := 0) h2
 have hp0 := encR_at hr0
 by_cases h5 : 1 ≤ r0.length
 rotate_left
 ·refine vcE.ex (by simp (disch := first | assumption | omega) only [go_sem, ↓reduceIte, qc, Nat.reduceEqDiff, ↓q0, ↓q1, ↓q2, hia, ↓hp0]; rfl) ?_
  exact bad (sz rfl (by simp [Dfa.sized, hw, h5])) rfl
 have hsz : d.sized = true := by simp [Dfa.sized, h1, h2, h3, h4, hw, h5]
 have k1 : D2 32 [encI.S d.cls, .func 33 [.fptr [.int .i64 r0.length] 0]] = _ := D2_has (l := d.cls) (by omega) (.inl r0.length)
 rw [any_neg] at k1
 refine vcE.step (by simp (disch := first | assumption | omega) only [go_sem, ↓reduceIte, qc]; rfl) (vcE.step (by simp (disch := first | assumption | omega) only [go_sem, ↓reduceIte, Nat.reduceEqDiff, ↓q0, ↓q1, ↓q2, hia, ↓hp0]; rfl) (vcE.step (by simp (disch := first | assumption | omega) only [go_sem, ↓reduceIte, Nat.reduceEqDiff, ↓q1, hia, ↓hp0, Nat.reduceLeDiff]; rfl) ?_))
 cases h6 : d.cls.all (inI r0.length) <;> rw [h6] at k1
 ·refine vcE.ex (by simp (disch := first | assumption | omega) only [go_sem, ↓reduceIte, Nat.reduceEqDiff, ↓q0, k1]; rfl) ?_
  exact bad (by rw [Dfa.ok, hw, h6, Bool.false_and, Bool.and_false]) rfl
 refine vcE.step (by simp (disch := first | assumption | omega) only [go_sem, ↓reduceIte, Nat.reduceEqDiff, ↓q0, k1]; rfl) ?_
 have okk : d.ok = d.nxt.all (okRow r0.length d.nxt.length) := by rw [Dfa.ok, hsz, hw, h6, Bool.true_and, Bool.true_and]
 refine vcE.then (fun e tm hp => (e = .ret ∧ d.ok = false ∧ tm 2 = .int .i64 2) ∨ (e = .normal ∧ d.ok = true)) ?_ ?_
 ·refine vcE.step (by simp (disch := first | assumption | omega) only [go_sem, ↓reduceIte, Nat.reduceEqDiff, ↓q1]; rfl) (vcE.block (vcE.count (by intro l tm hp h; simp at h)
   (fun i tm hp => hp = [some (.row 26 d.c), some (.row 3 [.int .i64 r0.length])] ∧ tm 1 = .ptr 0 0 ∧ tm 3 = .ptr 1 0 ∧ tm 49 = encR.S d.nxt ∧ tm 50 = .int .i64 d.nxt.length ∧ tm 51 = .int .i64 i ∧ (d.nxt.take i).all (okRow r0.length d.nxt.length) = true) d.nxt.length ⟨rfl, rfl, rfl, rfl, rfl, rfl, rfl⟩ ?_ ?_))
  ·rintro i tm hp hi ⟨rfl, t1, t3, t49, t50, t51, hall⟩
   obtain ⟨r, hr⟩ : ∃ r, d.nxt[i]? = some r := ⟨_, List.getElem?_eq_getElem hi⟩
   have hir : iaddrA 1 (encR.S d.nxt) (.int .i64 i) = some (.fptr (encR.cs d.nxt) (i * 1)) := encR.S_iaddr hi
   rw [Nat.mul_one] at hir
   have hpr := encR_at hr
   have hwr : IntKind.wrap .i64 ((i : Int) + 1) = (i : Int) + 1 := wrap_i64 (by omega) (by omega)
   by_cases h7 : r.length = r0.length
   ·have k2 : D2 32 [encI.S r, .func 34 [.fptr d.c 0]] = _ := D2_has (l := r) (d.fits_row hf (List.mem_of_getElem? hr)) (.inr d)
    rw [any_negD] at k2
    cases h8 : r.all (inI d.nxt.length) <;> rw [h8] at k2
    ·refine vcE.ex (by simp (disch := first | assumption | omega) only [go_sem, ↓reduceIte, t51, t50, Nat.reduceEqDiff, t49, hir, ↓hpr, h7, t3, t1, Dfa.c_nid, k2]; rfl) ?_
     refine .inl ⟨rfl, ?_, ?_⟩
     ·rw [okk]
      exact all_falseD hr (by rw [okRow, h8, Bool.and_false])
     ·simp only [upd_app, Nat.reduceEqDiff, ↓reduceIte]
    ·refine vcE.ex (by simp (disch := first | assumption | omega) only [go_sem, ↓reduceIte, t51, t50, Nat.reduceEqDiff, t49, hir, ↓hpr, h7, t3, t1, Dfa.c_nid, k2, hwr]; rfl) ?_
     refine ⟨rfl, ?_, ?_, ?_, ?_, ?_, ?_⟩
     rotate_right
     ·rw [all_takeD hr, hall, okRow, h8, decide_eq_true h7]
      rfl
     all_goals simp only [upd_app, Nat.reduceEqDiff, ↓reduceIte, t1, t3, t49, t50]
     rfl
   ·refine vcE.ex (by simp (disch := first | assumption | omega) only [go_sem, ↓reduceIte, t51, t50, Nat.reduceEqDiff, t49, hir, ↓hpr, t3]; rfl) ?_
    refine .inl ⟨rfl, ?_, ?_⟩
    ·rw [okk]
     exact all_falseD hr (by rw [okRow, decide_eq_false h7, Bool.false_and])
    ·simp only [upd_app, Nat.reduceEqDiff, ↓reduceIte]
  ·rintro tm hp ⟨rfl, t1, t3, t49, t50, t51, hall⟩
   rw [List.take_length] at hall
   refine vcE.ex (by simp (disch := first | assumption | omega) only [go_sem, ↓reduceIte, t51, t50]; rfl) ?_
   exact .inr ⟨rfl, okk.trans hall⟩
 ·rintro e tm hp (⟨rfl, h, h2⟩ | ⟨rfl, h⟩)
  ·exact bad h h2
  ·refine vcE.ex (by simp (disch := first | assumption | omega) only [go_sem, ↓reduceIte]; rfl) ?_
   exact ⟨_, rfl, by rw [h]; rfl⟩
end
section
open Go Go.Proofs
theorem getD_some {α : Type} {l : List α} {i : Nat} {z : α} (h : i < l.length) : l[i]? = some (l.getD i z) := by
 rw [List.getD_eq_getElem?_getD, List.getElem?_eq_getElem h]
 rfl
theorem Dfa.Ok.step {d : Dfa} (h : d.Ok) {s : Nat} (hs : s < d.nxt.length) (c : UInt8) : ∃ r j, d.nxt[s]? = some r ∧ d.cls[c.toNat]? = some ((j : Nat) : Int) ∧ j < r.length ∧ r[j]? = some ((d.go s c : Nat) : Int) := by
 have h1 := h.cls_lt c
 have h2 := h.go_at hs c
 have h3 := h.row (d.nxt.getD s []) (getD_mem hs)
 have hj : (d.cls.getD c.toNat 0).toNat < (d.nxt.getD s []).length := by omega
 refine ⟨d.nxt.getD s [], (d.cls.getD c.toNat 0).toNat, getD_some hs, ?_, hj, ?_⟩
 ·rw [Int.toNat_of_nonneg h1.1]
  exact getD_some (by rw [h.c]; exact c.toNat_lt)
 ·rw [Dfa.go, Int.toNat_of_nonneg h2.1]
  exact getD_some hj
theorem Dfa.fin_take (d : Dfa) {t : List UInt8} {i : Nat} {c : UInt8} (h : t[i]? = some c) : d.fin (t.take (i + 1)) = d.go (d.fin (t.take i)) c := by
 rw [Dfa.fin, List.take_add_one, h, List.foldl_append]
 rfl
theorem pThrough (d : Dfa) (h : d.Ok) (t : List UInt8) (ht : t.length ≤ roomy) : PCF Tryz.prog 36 [.agg d.c, .str t] (.bool (d.takes t)) := by
 refine pcf_e hmM (TabOk.none _) comp36 (by decide) (by simp) (nidL_ok (by simp only [nidL, nid, d.c_nid, Bool.and_self])) ?_
 have q0 : pickA none d.c 0 = some (encI.S d.cls) := rfl
 have q1 : pickA none d.c (0 + 1) = some (encR.S d.nxt) := rfl
 have q2 : pickA none d.c (0 + 2) = some (encT.S d.acc) := rfl
 have qc : cellsA (.agg d.c) = d.c := rfl
 simp only [roomy] at ht
 refine vcE.step (by simp (disch := first | assumption | omega) only [go_sem, ↓reduceIte, qc]; rfl) (vcE.step (by simp (disch := first | assumption | omega) only [go_sem, ↓reduceIte]; rfl) (vcE.then (fun e tm hp => e = .normal ∧ hp = [some (.row 26 d.c)] ∧ tm 2 = .ptr 0 0 ∧ tm 5 = .int .i64 (d.fin t)) ?_ ?_))
 ·refine vcE.step (by simp (disch := first | assumption | omega) only [go_sem, ↓reduceIte, Nat.reduceEqDiff]; rfl) (vcE.block (vcE.count (by intro l tm hp h; simp at h)
   (fun i tm hp => hp = [some (.row 26 d.c)] ∧ tm 1 = .str t ∧ tm 2 = .ptr 0 0 ∧ tm 5 = .int .i64 (d.fin (t.take i)) ∧ tm 8 = .int .i64 t.length ∧ tm 9 = .int .i64 i) t.length ⟨rfl, rfl, rfl, rfl, rfl, rfl⟩ ?_ ?_))
  ·rintro i tm hp hi ⟨rfl, t1, t2, t5, t8, t9⟩
   obtain ⟨c, hc⟩ : ∃ c, t[i]? = some c := ⟨_, List.getElem?_eq_getElem hi⟩
   have hs := h.fin_lt (t.take i)
   rw [d.fin_take hc]
   generalize d.fin (t.take i) = s at *
   obtain ⟨r, j, g1, g2, g3, g4⟩ := h.step hs c
   have i1 : iaddrA 1 (encR.S d.nxt) (.int .i64 s) = some (.fptr (encR.cs d.nxt) (s * 1)) := encR.S_iaddr hs
   have i2 : iaddrA 1 (encI.S d.cls) (.int .u8 c.toNat) = some (.fptr (encI.cs d.cls) (c.toNat * 1)) := encI.S_iaddr (by rw [h.c]; exact c.toNat_lt)
   have i3 : iaddrA 1 (encI.S r) (.int .i64 j) = some (.fptr (encI.cs r) (j * 1)) := encI.S_iaddr g3
   rw [Nat.mul_one] at i1 i2 i3
   have p1 := encR_at g1
   have p2 := encI_at g2
   have p3 := encI_at g4
   have hwr : IntKind.wrap .i64 ((i : Int) + 1) = (i : Int) + 1 := wrap_i64 (by omega) (by omega)
   refine vcE.ex (by simp (disch := first | assumption | omega) only [go_sem, ↓reduceIte, t9, t8, Nat.reduceEqDiff, t2, ↓q1, t5, i1, ↓p1, ↓q0, t1, hc, i2, ↓p2, i3, ↓p3, hwr]; rfl) ?_
   refine ⟨rfl, ?_, ?_, ?_, ?_, ?_⟩
   all_goals simp only [upd_app, Nat.reduceEqDiff, ↓reduceIte, t1, t2, t8]
   all_goals rfl
  ·rintro tm hp ⟨rfl, t1, t2, t5, t8, t9⟩
   rw [List.take_length] at t5
   refine vcE.ex (by simp (disch := first | assumption | omega) only [go_sem, ↓reduceIte, t9, t8]; rfl) ?_
   refine ⟨rfl, rfl, ?_, ?_⟩
   all_goals simp only [upd_app, Nat.reduceEqDiff, ↓reduceIte, t2, t5]
 ·rintro e tm hp ⟨rfl, rfl, t2, t5⟩
  have hs := h.fin_lt t
  have ha : d.fin t < d.acc.length := by rw [h.a]; exact hs
  have i1 : iaddrA 1 (encT.S d.acc) (.int .i64 (d.fin t)) = some (.fptr (encT.cs d.acc) (d.fin t * 1)) := encT.S_iaddr ha
  rw [Nat.mul_one] at i1
  have p1 := encT_at (getD_some (z := false) ha)
  refine vcE.ex (by simp (disch := first | assumption | omega) only [go_sem, ↓reduceIte, t2, ↓q2, Nat.reduceEqDiff, t5, i1, ↓p1]; rfl) ?_
  exact ⟨_, rfl, rfl⟩
def D3 : Tab := (Tab.none.addO 10 (.cons .dfa .nil) fun p => if p.1.fits then some (.rd true (.int .i64 (if p.1.ok then 0 else 2))) else none).addO 36 (.cons .dfa (.cons .str .nil)) fun p => if p.1.ok = true ∧ p.2.1.length ≤ roomy then some (.rd true (.bool (p.1.takes p.2.1))) else none
theorem D3_ok : TabOk Tryz.prog D3 := by
 refine TabOk.addO (TabOk.addO (TabOk.none _) ?_) ?_
 ·intro p r h
  split at h
  ·rename_i hv; cases h; exact pDCheck p.1 hv
  ·cases h
 ·intro p r h
  split at h
  ·rename_i hv; cases h; exact pThrough p.1 (p.1.ok_iff.1 hv.1) p.2.1 hv.2
  ·cases h
theorem D3_check {d : Dfa} (h : d.fits = true) : D3 10 [.agg d.c] = some (.rd true (.int .i64 (if d.ok then 0 else 2))) :=
 (Tab.addO_ne _ _ _ _ rfl _).trans ((Tab.addO_self _ _ (.cons .dfa .nil) _ (d, ())).trans (if_pos h))
theorem D3_through {d : Dfa} (h : d.ok = true) {t : List UInt8} (ht : t.length ≤ roomy) : D3 36 [.agg d.c, .str t] = some (.rd true (.bool (d.takes t))) :=
 (Tab.addO_self _ _ (.cons .dfa (.cons .str .nil)) _ (d, t, ())).trans (if_pos ⟨h, ht⟩)
theorem pDRun (d : Dfa) (hf : d.fits = true) (t : List UInt8) (ht : t.length ≤ roomy) : PCF Tryz.prog 12 [.agg d.c, .str t] (.bool (d.run t)) := by
 refine pcf_e hmM D3_ok comp12 (by decide) (by simp) (nidL_ok (by simp only [nidL, nid, d.c_nid, Bool.and_self])) ?_
 have q0 : pickA (some 3) d.c 0 = some (.agg d.c) := rfl
 have qc : cellsA (.agg d.c) = d.c := rfl
 have k1 := D3_check hf
 unfold Dfa.run
 cases h : d.ok <;> rw [h] at k1
 ·refine vcE.ex (by simp (disch := first | assumption | omega) only [go_sem, ↓reduceIte, qc, Nat.reduceEqDiff, ↓q0, Dfa.c_frz, k1, Dfa.c_nid]; rfl) ?_
  exact ⟨_, rfl, rfl⟩
 ·have k2 := D3_through h ht
  refine vcE.ex (by simp (disch := first | assumption | omega) only [go_sem, ↓reduceIte, qc, Nat.reduceEqDiff, ↓q0, Dfa.c_frz, k1, Dfa.c_nid, k2]; rfl) ?_
  exact ⟨_, rfl, rfl⟩
def Dfa.light (d : Dfa) : Bool := d.nxt.all (fun r => decide (r.length ≤ 300)) && (decide (d.cls.length ≤ 300) && (decide (d.nxt.length ≤ 300) && decide (d.acc.length ≤ 300)))
theorem Dfa.light_fits {d : Dfa} (h : d.light = true) : d.fits = true := by
 simp only [Dfa.light, Bool.and_eq_true, List.all_eq_true, decide_eq_true_eq] at h
 simp only [Dfa.fits, List.all_eq_true, decide_eq_true_eq, roomy]
 intro r hr
 have := h.1 r hr
 omega
theorem pLightDfa (d : Dfa) (hn : d.nxt.length ≤ roomy) : PCF Tryz.prog 6 [.agg d.c] (.bool d.light) := by
 refine pcf_e hmM (TabOk.none _) comp6 (by decide) (by simp) (nidL_ok d.a_nid) ?_
 have q0 : pickA none d.c 0 = some (encI.S d.cls) := rfl
 have q1 : pickA none d.c (0 + 1) = some (encR.S d.nxt) := rfl
 have q2 : pickA none d.c (0 + 2) = some (encT.S d.acc) := rfl
 have qc : cellsA (.agg d.c) = d.c := rfl
 simp only [roomy] at hn
 refine vcE.step (by simp (disch := first | assumption | omega) only [go_sem, ↓reduceIte, qc]; rfl) ?_
 refine vcE.then (fun e tm hp => (e = .ret ∧ d.light = false ∧ tm 2 = .bool false) ∨ (e = .normal ∧ hp = [some (.row 26 d.c)] ∧ tm 1 = .ptr 0 0 ∧ d.nxt.all (fun r => decide (r.length ≤ 300)) = true)) ?_ ?_
 ·refine vcE.step (by simp (disch := first | assumption | omega) only [go_sem, ↓reduceIte]; rfl) (vcE.block (vcE.count (by intro l tm hp h; simp at h)
   (fun i tm hp => hp = [some (.row 26 d.c)] ∧ tm 1 = .ptr 0 0 ∧ tm 3 = .int .i64 i ∧ (d.nxt.take i).all (fun r => decide (r.length ≤ 300)) = true) d.nxt.length ⟨rfl, rfl, rfl, rfl⟩ ?_ ?_))
  ·rintro i tm hp hi ⟨rfl, t1, t3, hall⟩
   obtain ⟨r, hr⟩ : ∃ r, d.nxt[i]? = some r := ⟨_, List.getElem?_eq_getElem hi⟩
   have i1 : iaddrA 1 (encR.S d.nxt) (.int .i64 i) = some (.fptr (encR.cs d.nxt) (i * 1)) := encR.S_iaddr hi
   rw [Nat.mul_one] at i1
   have p1 := encR_at hr
   have hwr : IntKind.wrap .i64 ((i : Int) + 1) = (i : Int) + 1 := wrap_i64 (by omega) (by omega)
   by_cases h7 : r.length ≤ 300
   ·refine vcE.ex (by simp (disch := first | assumption | omega) only [go_sem, ↓reduceIte, t3, Nat.reduceEqDiff, t1, ↓q1, i1, ↓p1, hwr]; rfl) ?_
    refine ⟨rfl, ?_, ?_, ?_⟩
    rotate_right
    ·rw [all_takeD hr, hall, decide_eq_true h7]
     rfl
    all_goals simp only [upd_app, Nat.reduceEqDiff, ↓reduceIte, t1]
    rfl
   ·refine vcE.ex (by simp (disch := first | assumption | omega) only [go_sem, ↓reduceIte, t3, Nat.reduceEqDiff, t1, ↓q1, i1, ↓p1]; rfl) ?_
    refine .inl ⟨rfl, ?_, ?_⟩
    ·rw [Dfa.light, all_falseD hr (by rw [decide_eq_false h7]), Bool.false_and]
    ·simp only [upd_app, Nat.reduceEqDiff, ↓reduceIte]
  ·rintro tm hp ⟨rfl, t1, t3, hall⟩
   rw [List.take_length] at hall
   refine vcE.ex (by simp (disch := first | assumption | omega) only [go_sem, ↓reduceIte, t3, Nat.reduceEqDiff, t1, ↓q1]; rfl) ?_
   refine .inr ⟨rfl, rfl, ?_, hall⟩
   simp only [upd_app, Nat.reduceEqDiff, ↓reduceIte, t1]
 ·rintro e tm hp (⟨rfl, h, h2⟩ | ⟨rfl, rfl, t1, hall⟩)
  ·exact ⟨_, by simp only [resE, resEL, resE1, h2]; rfl, by rw [h]; rfl⟩
  ·unfold Dfa.light
   rw [hall, Bool.true_and]
   by_cases h1 : d.cls.length ≤ 300
   ·by_cases h2 : d.nxt.length ≤ 300
    ·by_cases h3 : d.acc.length ≤ 300
     all_goals refine vcE.ex (by simp (disch := first | assumption | omega) only [go_sem, ↓reduceIte, t1, ↓q0, Nat.reduceEqDiff, ↓q1, ↓q2]; rfl) ?_
     all_goals refine ⟨_, rfl, ?_⟩
     all_goals simp (disch := omega) only [upd_app, ↓reduceIte, fresh_bool, h1, decide_true, h2, h3, Bool.and_self, decide_false, Bool.and_false]
    ·refine vcE.ex (by simp (disch := first | assumption | omega) only [go_sem, ↓reduceIte, t1, ↓q0, Nat.reduceEqDiff, ↓q1]; rfl) ?_
     refine ⟨_, rfl, ?_⟩
     simp (disch := omega) only [upd_app, ↓reduceIte, fresh_bool, h1, decide_true, h2, decide_false, Bool.false_and, Bool.and_false]
   ·refine vcE.ex (by simp (disch := first | assumption | omega) only [go_sem, ↓reduceIte, t1, ↓q0, Nat.reduceEqDiff]; rfl) ?_
    refine ⟨_, rfl, ?_⟩
    simp (disch := omega) only [upd_app, ↓reduceIte, fresh_bool, h1, decide_false, Bool.false_and]
end
end Go.Gi
