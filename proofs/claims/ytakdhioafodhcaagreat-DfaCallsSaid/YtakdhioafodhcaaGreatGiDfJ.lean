/- The classes of bytes: dfa.classes. -/
/- The classes of bytes: dfa.classes: what it gives. -/
import Derived.Test.YtakdhioafodhcaaGreatGiDfG
import Derived.Test.YtakdhioafodhcaaGreatGiDfC
import Derived.Test.YtakdhioafodhcaaGreatGiNfN
set_option linter.unusedVariables false
set_option linter.unusedSimpArgs false
set_option linter.unusedSectionVars false

namespace Go.Gi
section
open Go Go.Proofs
def ofB (f : Bool) (c : UInt8) : UInt8 := if f then foldB c else c
def keepB (c : UInt8) : Bool := !decide (c = 42) && !decide (c = 63)
def namedB (p : List UInt8) (f : Bool) : List UInt8 := (p.filter keepB).map (ofB f)
theorem namedB_len (p : List UInt8) (f : Bool) : (namedB p f).length ≤ p.length := by
 simp only [namedB, List.length_map]
 exact List.length_filter_le _ _
def sortB (l : List UInt8) : List UInt8 := l.mergeSort fun x y => !ltB y x
theorem sortB_len (l : List UInt8) : (sortB l).length = l.length := List.length_mergeSort _
theorem sortB_rise (l : List UInt8) : (sortB l).Pairwise fun x y => (!ltB y x) = true := by
 refine List.pairwise_mergeSort ?_ ?_ l
 ·intro a b c h1 h2
  simp only [ltB, Bool.not_eq_true', decide_eq_false_iff_not] at *
  omega
 ·intro a b
  simp only [ltB, Bool.or_eq_true, Bool.not_eq_true', decide_eq_false_iff_not]
  omega
def keysB (p : List UInt8) (f : Bool) : List UInt8 := cmpTo (sortB (namedB p f)).toArray (namedB p f).length
theorem cmpTo_mem (d : Array UInt8) : ∀ n x, x ∈ cmpTo d n ↔ ∃ i, i < n ∧ d[i]! = x
 | 0, x => by simp [cmpTo]
 | n + 1, x => by
  have ih := cmpTo_mem d n
  rw [cmpTo]
  split
  ·rw [List.mem_append, ih, List.mem_singleton]
   constructor
   ·rintro (⟨i, h1, h2⟩ | h)
    ·exact ⟨i, by omega, h2⟩
    ·exact ⟨n, by omega, h.symm⟩
   ·rintro ⟨i, h1, h2⟩
    by_cases hi : i = n
    ·subst hi
     exact .inr h2.symm
    ·exact .inl ⟨i, by omega, h2⟩
  ·rename_i h
   have h0 : n ≠ 0 := fun e => h (.inl e)
   have h1 : d[n]! = d[n - 1]! := Decidable.byContradiction fun e => h (.inr e)
   rw [ih]
   constructor
   ·rintro ⟨i, h1, h2⟩
    exact ⟨i, by omega, h2⟩
   ·rintro ⟨i, h2, h3⟩
    by_cases hi : i = n
    ·subst hi
     exact ⟨i - 1, by omega, by rw [← h1]; exact h3⟩
    ·exact ⟨i, by omega, h3⟩
theorem cmpTo_rise {d : Array UInt8} (h : ∀ i j, i < j → j < d.size → ltB d[j]! d[i]! = false) : ∀ n, n ≤ d.size → Rise (cmpTo d n)
 | 0, _ => List.Pairwise.nil
 | n + 1, hn => by
  have ih := cmpTo_rise h n (by omega)
  rw [cmpTo]
  split
  ·rename_i hc
   refine List.pairwise_append.2 ⟨ih, List.pairwise_singleton _ _, ?_⟩
   intro x hx y hy
   rw [List.mem_singleton] at hy
   subst hy
   obtain ⟨i, h1, rfl⟩ := (cmpTo_mem d n x).1 hx
   rcases hc with h0 | hc
   ·omega
   have a1 : ltB d[n]! d[n - 1]! = false := h (n - 1) n (by omega) (by omega)
   have a2 : ltB d[n - 1]! d[i]! = false := by
    by_cases hi : i = n - 1
    ·rw [hi]
     exact swoB.irrefl _
    ·exact h i (n - 1) (by omega) (by omega)
   have a3 : d[n]!.toNat ≠ d[n - 1]!.toNat := fun e => hc (UInt8.toNat_inj.1 e)
   simp only [ltB, decide_eq_false_iff_not, decide_eq_true_eq] at *
   omega
  ·exact ih
theorem keysB_rise (p : List UInt8) (f : Bool) : Rise (keysB p f) := by
 have hs := sortB_len (namedB p f)
 refine cmpTo_rise ?_ _ (by rw [List.size_toArray, hs]; exact Nat.le_refl _)
 intro i j hij hj
 rw [List.size_toArray] at hj
 have := List.pairwise_iff_getElem.1 (sortB_rise (namedB p f)) i j (by omega) hj hij
 rw [getElem!_pos _ j (by simpa using hj), getElem!_pos _ i (by simp; omega)]
 simpa using this
theorem keysB_mem (p : List UInt8) (f : Bool) (x : UInt8) : x ∈ keysB p f ↔ x ∈ namedB p f := by
 have hs := sortB_len (namedB p f)
 rw [keysB, cmpTo_mem, ← (List.mergeSort_perm (namedB p f) fun x y => !ltB y x).mem_iff, List.mem_iff_getElem]
 constructor
 ·rintro ⟨i, h1, h2⟩
  have hi : i < (sortB (namedB p f)).length := by omega
  refine ⟨i, hi, ?_⟩
  rw [getElem!_pos _ i (by simpa using hi), List.getElem_toArray] at h2
  exact h2
 ·rintro ⟨i, h1, h2⟩
  have hi : i < (sortB (namedB p f)).length := h1
  refine ⟨i, by omega, ?_⟩
  rw [getElem!_pos _ i (by simpa using hi), List.getElem_toArray]
  exact h2
theorem keysB_len (p : List UInt8) (f : Bool) : (keysB p f).length ≤ p.length := Nat.le_trans (cmpTo_len _ _) (namedB_len p f)
def clsOf (ks : List UInt8) (f : Bool) (c : UInt8) : Nat := if isB ks (ofB f c) then lowB ks (ofB f c) + 1 else 0
def zeroTo (ks : List UInt8) (f : Bool) : Nat → Int
 | 0 => -1
 | n + 1 => if isB ks (ofB f (UInt8.ofNat n)) then zeroTo ks f n else n
def clsTo (ks : List UInt8) (f : Bool) (n : Nat) : List Int := (List.range 256).map fun c => if c < n then ((clsOf ks f (UInt8.ofNat c) : Nat) : Int) else 0
theorem clsTo_len (ks : List UInt8) (f : Bool) (n : Nat) : (clsTo ks f n).length = 256 := by simp [clsTo]
theorem clsTo_zero (ks : List UInt8) (f : Bool) : clsTo ks f 0 = List.replicate 256 0 := by
 rw [List.eq_replicate_iff]
 refine ⟨clsTo_len _ _ _, fun b hb => ?_⟩
 simp only [clsTo, List.mem_map, Nat.not_lt_zero, if_false] at hb
 obtain ⟨_, _, h⟩ := hb
 exact h.symm
theorem clsTo_set (ks : List UInt8) (f : Bool) (n : Nat) : (clsTo ks f n).set n ((clsOf ks f (UInt8.ofNat n) : Nat) : Int) = clsTo ks f (n + 1) := by
 apply List.ext_getElem?
 intro j
 by_cases hj : j < 256
 ·rw [List.getElem?_set]
  by_cases hjn : n = j
  ·subst hjn
   rw [if_pos rfl, if_pos (by rw [clsTo_len]; exact hj)]
   simp [clsTo, hj]
  ·rw [if_neg hjn]
   simp only [clsTo, List.getElem?_map, List.getElem?_range hj, Option.map_some]
   congr 1
   by_cases h : j < n
   ·rw [if_pos h, if_pos (by omega)]
   ·rw [if_neg h, if_neg (by omega)]
 ·rw [List.getElem?_eq_none (by rw [List.length_set, clsTo_len]; omega), List.getElem?_eq_none (by rw [clsTo_len]; omega)]
theorem clsTo_same (ks : List UInt8) (f : Bool) (n : Nat) (h : isB ks (ofB f (UInt8.ofNat n)) = false) : clsTo ks f n = clsTo ks f (n + 1) := by
 apply List.map_congr_left
 intro j _
 by_cases hj : j < n
 ·rw [if_pos hj, if_pos (by omega)]
 ·rw [if_neg hj]
  by_cases hjn : j = n
  ·subst hjn
   rw [if_pos (by omega), clsOf, h]
   rfl
  ·rw [if_neg (by omega)]
def clsL (p : List UInt8) (f : Bool) : List Int := clsTo (keysB p f) f 256
def someL (p : List UInt8) (f : Bool) : List Int := zeroTo (keysB p f) f 256 :: (keysB p f).map fun c => (c.toNat : Int)
theorem pOf1 (c : UInt8) : PCF Tryz.prog 44 [.int .u8 c.toNat] (.int .u8 c.toNat) := by
 refine pcf_e hmG (TabOk.none _) comp44 (by decide) (by simp) (nidL_ok rfl) ?_
 refine vcE.ex (by simp (disch := first | assumption | omega) only [go_sem, ↓reduceIte, reduceCtorEq]; rfl) ?_
 exact ⟨_, rfl, rfl⟩
def C0 : Tab := Tab.none.addO 46 (.cons .str .nil) fun p => if p.1.length ≤ 1000 then some (.rd true (.str (p.1.map foldB))) else none
theorem C0_ok : TabOk Tryz.prog C0 := by
 refine TabOk.addO (TabOk.none _) ?_
 intro p r h
 split at h
 ·rename_i hv; cases h; exact pFoldS p.1 (by omega)
 ·cases h
theorem C0_fold (c : UInt8) : C0 46 [.str [c]] = some (.rd true (.str [foldB c])) := by
 refine (Tab.addO_self _ _ (.cons .str .nil) _ ([c], ())).trans ?_
 rw [if_pos (by simp)]
 rfl
theorem idx_str {s : List UInt8} {i : Nat} {c : UInt8} {k : IntKind} (h : s[i]? = some c) : indexSA (.str s) (.int k (i : Int)) = some (.int .u8 c.toNat) := by
 simp only [indexSA]
 rw [if_pos (by omega), Int.toNat_natCast, h]
 rfl
theorem src_byte {hp : HP} {e : TypeId} {c : UInt8} {ex : Bool} : srcA (hp ++ [some (.row e [.int .u8 c.toNat])]) 1 (.sl hp.length 0 1 1 1 ex) = some (encB.cs [c], 1) := by
 have := encB.sl_src (hp := hp ++ [some (.row e [.int .u8 c.toNat])]) (id := hp.length) (e := e) (l := [c]) (lo := 1) (ex := ex) (by simp; rfl)
 exact this
theorem neB (x y : UInt8) : binA .neq .prim (.int .u8 (x.toNat : Int)) (.int .u8 (y.toNat : Int)) = some (.bool (!decide (x = y))) := by
 simp only [binA, intA, if_true]
 congr 3
 simp only [decide_eq_decide, Int.natCast_inj, UInt8.toNat_inj]
theorem pOf2 (c : UInt8) : PCF Tryz.prog 45 [.int .u8 c.toNat] (.int .u8 (foldB c).toNat) := by
 refine pcf_e hmG C0_ok comp45 (by decide) (by simp) (nidL_ok rfl) ?_
 have h1 := C0_fold c
 have hs : b2sA [some (.row 5 [.int .u8 c.toNat])] (.sl 0 0 1 1 1 true) = some (.str [c]) := by
  have h1 : (0 : Int) ≤ (c.toNat : Int) ∧ (c.toNat : Int) < 256 := by
   have := c.toNat_lt
   omega
  simp [b2sA, srcA, unbyte, h1]
 have h2 : indexSA (.str [foldB c]) (.int .i64 0) = some (.int .u8 (foldB c).toNat) := idx_str (i := 0) rfl
 refine vcE.ex (by simp (disch := first | assumption | omega) only [go_sem, ↓reduceIte, reduceCtorEq, ↓hs, h1, ↓h2]; rfl) ?_
 exact ⟨_, rfl, rfl⟩
instance (ks : List UInt8) : Decidable (Rise ks) := inferInstanceAs (Decidable (List.Pairwise _ _))
def C1 : Tab := ((B1.addR 44 (.cons .byte .nil) fun p => .rd true (.int .u8 p.1.toNat)).addR 45 (.cons .byte .nil) fun p => .rd true (.int .u8 (foldB p.1).toNat)).addO 49 (.cons (.S encB) (.cons .byte .nil)) fun p => if Rise p.1 ∧ p.1.length ≤ 1000000 then some (.rd true (.tup [.int .i64 (lowB p.1 p.2.1 : Nat), .bool (isB p.1 p.2.1)])) else none
theorem C1_ok : TabOk Tryz.prog C1 := by
 refine TabOk.addO (TabOk.addR (TabOk.addR B1_ok ?_) ?_) ?_
 ·exact fun p => pOf1 p.1
 ·exact fun p => pOf2 p.1
 ·intro p r h
  split at h
  ·rename_i hv; cases h; exact pBin p.1 p.2.1 hv.1 hv.2
  ·cases h
theorem C1_bin (ks : List UInt8) (c : UInt8) (h1 : Rise ks) (h2 : ks.length ≤ 1000000) : C1 49 [encB.S ks, .int .u8 c.toNat] = some (.rd true (.tup [.int .i64 (lowB ks c : Nat), .bool (isB ks c)])) :=
 (Tab.addO_self _ _ (.cons (.S encB) (.cons .byte .nil)) _ (ks, c, ())).trans (if_pos ⟨h1, h2⟩)
def fOf (f : Bool) : FuncId := if f then 45 else 44
theorem C1_of (f : Bool) (c : UInt8) : C1 (fOf f) [.int .u8 c.toNat] = some (.rd true (.int .u8 (ofB f c).toNat)) := by
 cases f
 ·refine (Tab.addO_ne _ _ _ _ rfl _).trans ((Tab.addR_ne _ _ _ _ rfl _).trans ?_)
  exact Tab.addR_self _ _ (.cons .byte .nil) _ (c, ())
 ·refine (Tab.addO_ne _ _ _ _ rfl _).trans ?_
  exact Tab.addR_self _ _ (.cons .byte .nil) _ (c, ())
theorem C1_less : Lss elB ltB C1 66 := fun x y => (Tab.addO_ne _ _ _ _ rfl _).trans ((Tab.addR_ne _ _ _ _ rfl _).trans ((Tab.addR_ne _ _ _ _ rfl _).trans (B1_less x y)))
end
section
open Go Go.Proofs
theorem LiveB.keep {hp hp' : HP} {v : AV} {l : List UInt8} (h : LiveB hp v l) (hk : ∀ k, k < hp.length → hp'[k]? = hp[k]?) : LiveB hp' v l := by
 rcases h with h | ⟨id, lo, ex, e, z, h1, h2⟩
 ·exact .inl h
 ·exact .inr ⟨id, lo, ex, e, z, h1, by rw [hk id (List.getElem?_eq_some_iff.1 h2).1]; exact h2⟩
theorem app_own {α : Type} {E : Enc α} {hp : HP} {id : Nat} {e : TypeId} {l m : List α} {ex : Bool} {bytes : Nat} {x : AV} (h : hp[id]? = some (some (.row e (E.cs l)))) (hx : srcA hp E.sz x = some (E.cs m, m.length)) (hm : 0 < m.length) (hb : (l.length + m.length) * bytes ≤ 140737488355328) (hn : l.length + m.length ≤ 9223372036854775807) :
  ∃ hp', appA e E.sz bytes hp (.sl id 0 l.length E.sz l.length ex) x = some (.sl hp.length 0 (l ++ m).length E.sz (l ++ m).length false, hp') ∧ hp'[hp.length]? = some (some (.row e (E.cs (l ++ m)))) ∧ (∀ k, k ≠ id → k < hp.length → hp'[k]? = hp[k]?) ∧ hp'.length = hp.length + 1 := by
 cases ex with
 | false =>
  refine ⟨_, E.sl_app h hx hm hb hn, ?_, ?_, ?_⟩
  ·rw [List.getElem?_append_right (by simp)]
   simp
  ·intro k hk hl
   rw [List.getElem?_append_left (by simpa using hl), List.getElem?_set_ne (Ne.symm hk)]
  ·simp
 | true =>
  refine ⟨hp ++ [some (.row e (E.cs (l ++ m)))], ?_, ?_, ?_, ?_⟩
  ·simp only [appA, hx, h]
   rw [if_neg (by omega), if_pos ⟨trivial, by rw [E.cs_len]; omega⟩, if_neg (by omega), if_pos ⟨hb, hn⟩, if_pos trivial]
   rw [List.drop_zero, List.take_of_length_le (by rw [E.cs_len]; omega), E.cs_app, List.length_append]
  ·simp
  ·intro k hk hl
   rw [List.getElem?_append_left hl]
  ·simp
theorem encI_cs (l : List Int) : encI.cs l = l.map fun n => .int .i64 n := encI.cs_map1 (fun _ => rfl) l
theorem pClasses (p : List UInt8) (f : Bool) (hp : p.length ≤ 1000) : PCF Tryz.prog 19 [.str p, .bool f] (.tup [.agg (encI.cs (clsL p f)), encI.S (someL p f)]) := by
 refine pcf_e hmG C1_ok comp19 (by rfl) (by simp) (nidL_ok rfl) ?_
 have hz : encI.cs (List.replicate 256 0) = List.replicate 256 (.int .i64 0) := by rw [encI_cs, List.map_replicate]
 unfold c19
 rw [show r19_0 = [⟨some 4, .op (.alloc 45 (List.replicate 256 (.int .i64 0))), [], none⟩, ⟨some 5, .op (.mov), [.c (.nils)], none⟩] from by kernel_rfl]
 rw [show r19_13 = [⟨some 9, .op (.alloc 45 (List.replicate 256 (.int .i64 0))), [], none⟩] from by kernel_rfl]
 rw [← hz]
 generalize hZ : encI.cs (List.replicate 256 0) = Z
 -- by which function
 refine vcE.step (by simp (disch := first | assumption | omega) only [go_sem, ↓reduceIte]; rfl) (vcE.step (by simp (disch := first | assumption | omega) only [go_sem, ↓reduceIte]; rfl) (vcE.then (fun e' tm' hp' => e' = .normal ∧ hp' = [some (.row 45 Z)] ∧ tm' 0 = .str p ∧ tm' 4 = .ptr 0 0 ∧ tm' 6 = .func (fOf f) []) ?_ ?_))
 ·cases f
  ·refine vcE.ex (by simp (disch := first | assumption | omega) only [go_sem, ↓reduceIte, Nat.reduceEqDiff]; rfl) ?_
   exact ⟨rfl, rfl, rfl, rfl, rfl⟩
  ·refine vcE.ex (by simp (disch := first | assumption | omega) only [go_sem, ↓reduceIte, Nat.reduceEqDiff]; rfl) ?_
   exact ⟨rfl, rfl, rfl, rfl, rfl⟩
 rintro e' tm hp1 ⟨rfl, rfl, t0, t4, t6⟩
 have hof := fun c => C1_of f c
 generalize fOf f = g at t6 hof
 -- those that are named
 refine vcE.step (by simp (disch := first | assumption | omega) only [go_sem, ↓reduceIte]; rfl) (vcE.then (fun e' tm' hp' => e' = .normal ∧ ∃ id, 1 ≤ id ∧ hp'[0]? = some (some (.row 45 Z)) ∧ BldAt encB hp' id 5 (namedB p f) ∧ (namedB p f = [] ∨ id < hp'.length) ∧ 1 ≤ hp'.length ∧ tm' 4 = .ptr 0 0 ∧ tm' 6 = .func g [] ∧ tm' 7 = bld id (namedB p f).length 1) ?_ ?_)
 ·refine vcE.step (by simp (disch := first | assumption | omega) only [go_sem, ↓reduceIte, reduceCtorEq, t0]; rfl) (vcE.block (vcE.loop (by intro l tm hp h; simp at h) (fun k tm' hp' => ∃ i id : Nat, k = p.length - i ∧ i ≤ p.length ∧ 1 ≤ id ∧ hp'[0]? = some (some (.row 45 Z)) ∧ BldAt encB hp' id 5 (namedB (p.take i) f) ∧ (namedB (p.take i) f = [] ∨ id < hp'.length) ∧ 1 ≤ hp'.length ∧ tm' 0 = .str p ∧ tm' 4 = .ptr 0 0 ∧ tm' 6 = .func g [] ∧ tm' 7 = bld id (namedB (p.take i) f).length 1 ∧ tm' 18 = .int .i64 p.length ∧ tm' 19 = .int .i64 (i : Int)) p.length ⟨0, 1, rfl, Nat.zero_le _, Nat.le_refl _, rfl, .inl rfl, .inl rfl, by simp, ?_, ?_, ?_, ?_, ?_, ?_⟩ ?_))
  ·first | (simp only [upd_app, Nat.reduceEqDiff, ↓reduceIte, t0, t4, t6]; done) | (simp only [upd_app, Nat.reduceEqDiff, ↓reduceIte, t0, t4, t6]; rfl)
  ·first | (simp only [upd_app, Nat.reduceEqDiff, ↓reduceIte, t0, t4, t6]; done) | (simp only [upd_app, Nat.reduceEqDiff, ↓reduceIte, t0, t4, t6]; rfl)
  ·first | (simp only [upd_app, Nat.reduceEqDiff, ↓reduceIte, t0, t4, t6]; done) | (simp only [upd_app, Nat.reduceEqDiff, ↓reduceIte, t0, t4, t6]; rfl)
  ·first | (simp only [upd_app, Nat.reduceEqDiff, ↓reduceIte, t0, t4, t6]; done) | (simp only [upd_app, Nat.reduceEqDiff, ↓reduceIte, t0, t4, t6]; rfl)
  ·first | (simp only [upd_app, Nat.reduceEqDiff, ↓reduceIte, t0, t4, t6]; done) | (simp only [upd_app, Nat.reduceEqDiff, ↓reduceIte, t0, t4, t6]; rfl)
  ·first | (simp only [upd_app, Nat.reduceEqDiff, ↓reduceIte, t0, t4, t6]; done) | (simp only [upd_app, Nat.reduceEqDiff, ↓reduceIte, t0, t4, t6]; rfl)
  clear t0 t4 t6
  rintro k tm hp1 ⟨i, id, rfl, hi, hid, hr0, hb, hbl, hl1, t0, t4, t6, t7, t18, t19⟩
  by_cases hlt : i < p.length
  rotate_left
  ·have : i = p.length := by omega
   subst this
   rw [List.take_length] at hb hbl t7
   refine vcE.ex (by simp (disch := first | assumption | omega) only [go_sem, ↓reduceIte, t19, t18, Int.ofNat_lt, hlt, decide_false]; rfl) ?_
   refine ⟨rfl, id, hid, hr0, hb, hbl, hl1, ?_, ?_, ?_⟩
   all_goals simp only [upd_app, Nat.reduceEqDiff, ↓reduceIte, t4, t6, t7]
  have hg := List.getElem?_eq_getElem hlt
  generalize hc : p[i] = c at hg
  have hix : indexSA (.str p) (.int .i64 (i : Int)) = some (.int .u8 c.toNat) := idx_str hg
  have n42 : binA .neq .prim (.int .u8 (c.toNat : Int)) (.int .u8 42) = some (.bool (!decide (c = 42))) := neB c 42
  have n63 : binA .neq .prim (.int .u8 (c.toNat : Int)) (.int .u8 63) = some (.bool (!decide (c = 63))) := neB c 63
  have htk : p.take (i + 1) = p.take i ++ [c] := by rw [List.take_add_one, hg]; rfl
  have hnm : namedB (p.take (i + 1)) f = namedB (p.take i) f ++ (if keepB c then [ofB f c] else []) := by
   rw [htk, namedB, List.filter_append, List.map_append]
   congr 1
   cases hk : keepB c <;> simp [hk]
  have w1 := natW (x := (i : Int) + 1) (i + 1) (by omega) (by omega)
  have skip : keepB c = false → ∀ {tm : Env}, tm 0 = .str p → tm 4 = .ptr 0 0 → tm 6 = .func g [] → tm 7 = bld id (namedB (p.take i) f).length 1 → tm 18 = .int .i64 p.length → tm 19 = .int .i64 ((i + 1 : Nat) : Int) → ∃ k', k' < p.length - i ∧ ∃ i id : Nat, k' = p.length - i ∧ i ≤ p.length ∧ 1 ≤ id ∧ hp1[0]? = some (some (.row 45 Z)) ∧ BldAt encB hp1 id 5 (namedB (p.take i) f) ∧ (namedB (p.take i) f = [] ∨ id < hp1.length) ∧ 1 ≤ hp1.length ∧ tm 0 = .str p ∧ tm 4 = .ptr 0 0 ∧ tm 6 = .func g [] ∧ tm 7 = bld id (namedB (p.take i) f).length 1 ∧ tm 18 = .int .i64 p.length ∧ tm 19 = .int .i64 (i : Int) := by
   intro hk tm u0 u4 u6 u7 u18 u19
   rw [hk] at hnm
   simp only [Bool.false_eq_true, if_false, List.append_nil] at hnm
   exact ⟨p.length - (i + 1), by omega, i + 1, id, rfl, by omega, hid, hr0, by rw [hnm]; exact hb, by rw [hnm]; exact hbl, hl1, u0, u4, u6, by rw [hnm]; exact u7, u18, u19⟩
  by_cases h42 : c = 42
  ·rw [decide_eq_true h42, Bool.not_true] at n42
   refine vcE.ex (by simp (disch := first | assumption | omega) only [go_sem, ↓reduceIte, t19, t18, Int.ofNat_lt, hlt, Nat.reduceEqDiff, reduceCtorEq, t0, ↓hix, ↓n42, w1]; rfl) ?_
   refine skip (by simp [keepB, h42]) ?_ ?_ ?_ ?_ ?_ ?_
   all_goals simp only [upd_app, Nat.reduceEqDiff, ↓reduceIte, t0, t4, t6, t7, t18]
  rw [decide_eq_false h42, Bool.not_false] at n42
  by_cases h63 : c = 63
  ·rw [decide_eq_true h63, Bool.not_true] at n63
   refine vcE.ex (by simp (disch := first | assumption | omega) only [go_sem, ↓reduceIte, t19, t18, Int.ofNat_lt, hlt, Nat.reduceEqDiff, reduceCtorEq, t0, ↓hix, ↓n42, ↓n63, w1]; rfl) ?_
   refine skip (by simp [keepB, h63]) ?_ ?_ ?_ ?_ ?_ ?_
   all_goals simp only [upd_app, Nat.reduceEqDiff, ↓reduceIte, t0, t4, t6, t7, t18]
  rw [decide_eq_false h63, Bool.not_false] at n63
  have hk : keepB c = true := by simp [keepB, h42, h63]
  rw [hk] at hnm
  simp only [if_true] at hnm
  have hlen := namedB_len (p.take i) f
  have hlen2 : (p.take i).length ≤ 1000 := by rw [List.length_take]; omega
  have happ := (hb.app [some (.row 5 [.int .u8 (ofB f c).toNat])]).more (bytes := 1) (m := [ofB f c]) (src_byte (ex := true)) (by simp) (by simp; omega) (by simp; omega)
  simp only [show encB.sz = 1 from rfl] at happ
  have hat := BldAt.moreAt encB (hp1 ++ [some (Blk.row 5 [.int .u8 (ofB f c).toNat])]) id (namedB (p.take i) f).length 5 (namedB (p.take i) f ++ [ofB f c])
  have hl2 := bldH_len (hp1 ++ [some (Blk.row 5 [.int .u8 (ofB f c).toNat])]) id (namedB (p.take i) f).length (Blk.row 5 (encB.cs (namedB (p.take i) f ++ [ofB f c])))
  have h02 := bldH_other (b := Blk.row 5 (encB.cs (namedB (p.take i) f ++ [ofB f c]))) (app_get (new := [some (Blk.row 5 [.int .u8 (ofB f c).toNat])]) hr0) (id := id) (len := (namedB (p.take i) f).length) (.inr (by omega))
  have ho := hof c
  rw [← hnm] at happ hat hl2 h02
  refine vcE.ex (by simp (disch := first | assumption | omega) only [go_sem, ↓reduceIte, t19, t18, Int.ofNat_lt, hlt, Nat.reduceEqDiff, reduceCtorEq, t0, ↓hix, ↓n42, ↓n63, t7, t6, ho, ↓happ, w1]; rfl) ?_
  refine ⟨p.length - (i + 1), by omega, i + 1, (hp1 ++ [some (Blk.row 5 [.int .u8 (ofB f c).toNat])]).length, rfl, by omega, by simp, h02, hat, .inr (by rw [hl2]; omega), by rw [hl2]; omega, ?_, ?_, ?_, ?_, ?_, ?_⟩
  all_goals simp only [upd_app, Nat.reduceEqDiff, ↓reduceIte, t0, t4, t6, t18]
 clear t0 t4 t6
 rintro e' tm hp1 ⟨rfl, id, hid, hr0, hb, hbl, hl1, t4, t6, t7⟩
 have hnl := namedB_len p f
 -- sorted
 have hbv : bld id (namedB p f).length 1 = bld id (namedB p f).length encB.sz := rfl
 have hsrt0 : Srt elB 5 id hp1 hp1 (namedB p f).toArray := Srt.refl (hb.imp (fun h => by rw [h]; rfl) fun h => by rw [h]; rfl)
 have hsla : SlA id (namedB p f).toArray (bld id (namedB p f).length 1) := by
  refine ⟨fun i hi => ?_, by rw [List.size_toArray]; omega⟩
  rw [List.size_toArray] at hi
  rw [bld_pos (by omega)]
  exact iaddr_sl1 hi
 refine vcE.then (fun e' tm' hp' => e' = .normal ∧ Srt elB 5 id hp' hp' (sortB (namedB p f)).toArray ∧ hp'[0]? = some (some (.row 45 Z)) ∧ 1 ≤ hp'.length ∧ tm' 4 = .ptr 0 0 ∧ tm' 6 = .func g [] ∧ tm' 7 = bld id (namedB p f).length 1) ?_ ?_
 ·rw [show r19_11 = r19_11.take 1 ++ r19_11.drop 1 from rfl]
  refine vcE.app (vcE.ex (by simp (disch := first | assumption | omega) only [go_sem, ↓reduceIte, t7]; rfl) ⟨rfl, vcE.call (f := 47) (caps := []) (ys := [bld id (namedB p f).length 1]) rfl ?_ (srt_calls hmG C1_ok C1_less swoB srtB comp47 hsrt0 hsla (fun hp => by rw [bld_len, List.size_toArray]) (bld_fits _ _ _)) ?_⟩)
  ·simp only [evsE, evE, upd_app, Nat.reduceEqDiff, ↓reduceIte, t7]
  rintro r hp' hd
  obtain ⟨rfl, hs⟩ := Done.eq swoB ltB_tot hd
  refine ⟨rfl, Srt.refl hs.row, ?_, ?_, ?_, ?_, ?_⟩
  ·rw [hs.oth 0 (by omega) (by omega)]
   exact hr0
  ·have := hs.len
   omega
  all_goals simp only [putE, upd_app, Nat.reduceEqDiff, ↓reduceIte, t4, t6, t7]
 clear t4 t6 t7 hsrt0 hsla hb hbl hr0 hl1 hp1
 rintro e' tm hp1 ⟨rfl, hs, hr0, hl1, t4, t6, t7⟩
 -- one of each
 refine vcE.then (fun e' tm' hp' => e' = .normal ∧ ∃ kv, LiveB hp' kv (keysB p f) ∧ hp'[0]? = some (some (.row 45 Z)) ∧ 1 ≤ hp'.length ∧ tm' 4 = .ptr 0 0 ∧ tm' 6 = .func g [] ∧ tm' 7 = kv) ?_ ?_
 ·rw [show r19_12 = r19_12.take 1 ++ (r19_12.drop 1).take 1 ++ r19_12.drop 2 from rfl]
  refine vcE.app (vcE.app (vcE.ex (by simp (disch := first | assumption | omega) only [go_sem, ↓reduceIte, t7]; rfl) ⟨rfl, vcE.call (f := 48) (caps := []) (ys := [bld id (namedB p f).length 1]) rfl ?_ (cmp_calls (N := (namedB p f).length) (by rw [List.size_toArray, sortB_len]) rfl hs (by omega)) ?_⟩))
  ·simp only [evsE, evE, upd_app, Nat.reduceEqDiff, ↓reduceIte, t7]
  rintro r hp' ⟨hlv, hoth, hlen⟩
  refine ⟨rfl, vcE.ex (by simp (disch := first | assumption | omega) only [go_sem, ↓reduceIte]; rfl) ?_⟩
  refine ⟨rfl, r, hlv, ?_, by omega, ?_, ?_, ?_⟩
  ·rw [hoth 0 (by omega)]
   exact hr0
  all_goals simp only [upd_app, Nat.reduceEqDiff, ↓reduceIte, t4, t6]
 clear t4 t6 t7 hs hr0 hl1 hp1
 rintro e' tm hp1 ⟨rfl, kv, hlv, hr0, hl1, t4, t6, t7⟩
 have hrise := keysB_rise p f
 have hkl := keysB_len p f
 generalize hks : keysB p f = ks at *
 -- a byte of each class
 have hmo : ∀ hp : HP, srcA (hp ++ [some (.row 3 [.int .i64 (-1)])]) 1 (.sl hp.length 0 1 1 1 true) = some (encI.cs [-1], 1) := fun hp => src_int
 refine vcE.step (by simp (disch := first | assumption | omega) only [go_sem, ↓reduceIte]; rfl) (vcE.step (by simp (disch := first | assumption | omega) only [go_sem, ↓reduceIte]; rfl) ?_)
 generalize hn0 : hp1.length = n0 at *
 have hkeep1 : ∀ k, k < n0 → (hp1 ++ [some (.row 45 Z)] ++ [some (.row 3 [.int .i64 (-1)])])[k]? = hp1[k]? := by
  intro k hk
  rw [List.append_assoc, List.getElem?_append_left (by omega)]
 have harr1 : (hp1 ++ [some (.row 45 Z)] ++ [some (.row 3 [.int .i64 (-1)])])[n0]? = some (some (.row 45 Z)) := by
  rw [List.append_assoc, List.getElem?_append_right (by omega)]
  simp [hn0]
 have hsid1 : (hp1 ++ [some (.row 45 Z)] ++ [some (.row 3 [.int .i64 (-1)])])[n0 + 1]? = some (some (.row 3 (encI.cs [-1]))) := by
  rw [List.getElem?_append_right (by simp; omega)]
  simp [hn0]
  rfl
 generalize hp1 ++ [some (.row 45 Z)] ++ [some (.row 3 [.int .i64 (-1)])] = hp2 at *
 have hlen2 : n0 + 1 < hp2.length := (List.getElem?_eq_some_iff.1 hsid1).1
 refine vcE.then (fun e' tm' hp' => e' = .normal ∧ ∃ sid l ex, l = -1 :: ks.map (fun c => (c.toNat : Int)) ∧ hp'[sid]? = some (some (.row 3 (encI.cs l))) ∧ n0 < sid ∧ hp'[n0]? = some (some (.row 45 Z)) ∧ (∀ k, k < n0 → hp'[k]? = hp1[k]?) ∧ tm' 4 = .ptr 0 0 ∧ tm' 6 = .func g [] ∧ tm' 7 = kv ∧ tm' 9 = .ptr n0 0 ∧ tm' 10 = .sl sid 0 l.length 1 l.length ex) ?_ ?_
 ·have hln := hlv.len (hp' := hp2)
  have hlf : lenFits .slice kv = true := by
   rcases hlv with ⟨_, rfl⟩ | ⟨_, _, _, _, _, rfl, _⟩ <;> rfl
  refine vcE.step (by simp (disch := first | assumption | omega) only [go_sem, ↓reduceIte, Nat.reduceEqDiff, t7, hlf, hln]; rfl) (vcE.block (vcE.loop (by intro l tm hp h; simp at h) (fun k tm' hp' => ∃ (i sid : Nat) (l : List Int) (ex : Bool), k = ks.length - i ∧ i ≤ ks.length ∧ l = -1 :: (ks.take i).map (fun c => (c.toNat : Int)) ∧ hp'[sid]? = some (some (.row 3 (encI.cs l))) ∧ n0 < sid ∧ hp'[n0]? = some (some (.row 45 Z)) ∧ (∀ k, k < n0 → hp'[k]? = hp1[k]?) ∧ tm' 4 = .ptr 0 0 ∧ tm' 6 = .func g [] ∧ tm' 7 = kv ∧ tm' 9 = .ptr n0 0 ∧ tm' 10 = .sl sid 0 l.length 1 l.length ex ∧ tm' 46 = kv ∧ tm' 47 = .int .i64 (ks.length : Int) ∧ tm' 48 = .int .i64 (i : Int)) ks.length ⟨0, n0 + 1, [-1], true, rfl, Nat.zero_le _, rfl, hsid1, by omega, harr1, hkeep1, ?_, ?_, ?_, ?_, ?_, ?_, ?_, ?_⟩ ?_))
  ·first | (simp only [upd_app, Nat.reduceEqDiff, ↓reduceIte, t4, t6, t7, hn0]; done) | (simp only [upd_app, Nat.reduceEqDiff, ↓reduceIte, t4, t6, t7, hn0]; rfl)
  ·first | (simp only [upd_app, Nat.reduceEqDiff, ↓reduceIte, t4, t6, t7, hn0]; done) | (simp only [upd_app, Nat.reduceEqDiff, ↓reduceIte, t4, t6, t7, hn0]; rfl)
  ·first | (simp only [upd_app, Nat.reduceEqDiff, ↓reduceIte, t4, t6, t7, hn0]; done) | (simp only [upd_app, Nat.reduceEqDiff, ↓reduceIte, t4, t6, t7, hn0]; rfl)
  ·first | (simp only [upd_app, Nat.reduceEqDiff, ↓reduceIte, t4, t6, t7, hn0]; done) | (simp only [upd_app, Nat.reduceEqDiff, ↓reduceIte, t4, t6, t7, hn0]; rfl)
  ·simp only [upd_app, Nat.reduceEqDiff, ↓reduceIte, List.length_append, List.length_singleton, hn0]
  ·first | (simp only [upd_app, Nat.reduceEqDiff, ↓reduceIte, t4, t6, t7, hn0]; done) | (simp only [upd_app, Nat.reduceEqDiff, ↓reduceIte, t4, t6, t7, hn0]; rfl)
  ·first | (simp only [upd_app, Nat.reduceEqDiff, ↓reduceIte, t4, t6, t7, hn0]; done) | (simp only [upd_app, Nat.reduceEqDiff, ↓reduceIte, t4, t6, t7, hn0]; rfl)
  ·first | (simp only [upd_app, Nat.reduceEqDiff, ↓reduceIte, t4, t6, t7, hn0]; done) | (simp only [upd_app, Nat.reduceEqDiff, ↓reduceIte, t4, t6, t7, hn0]; rfl)
  clear t4 t6 t7 hsid1 harr1 hkeep1 hlen2 hln
  rintro k tm hp3 ⟨i, sid, l, ex, rfl, hi, hl, hsd, hns, harr, hkeep, t4, t6, t7, t9, t10, t46, t47, t48⟩
  by_cases hlt : i < ks.length
  rotate_left
  ·have : i = ks.length := by omega
   subst this
   rw [List.take_length] at hl
   refine vcE.ex (by simp (disch := first | assumption | omega) only [go_sem, ↓reduceIte, t48, t47, Int.ofNat_lt, hlt, decide_false]; rfl) ?_
   refine ⟨rfl, sid, l, ex, hl, hsd, hns, harr, hkeep, ?_, ?_, ?_, ?_, ?_⟩
   all_goals simp only [upd_app, Nat.reduceEqDiff, ↓reduceIte, t4, t6, t7, t9, t10]
  have hg := List.getElem?_eq_getElem hlt
  generalize ks[i] = c at hg
  obtain ⟨pp, y1, y2⟩ := (hlv.keep (hp' := hp3) (fun k hk => hkeep k (by omega))).at_ hg
  have hcl := c.toNat_lt
  have wc : IntKind.wrap .i64 (c.toNat : Int) = (c.toNat : Int) := wrap_i64 (by omega) (by omega)
  have w1 := natW (x := (i : Int) + 1) (i + 1) (by omega) (by omega)
  have hll : l.length ≤ 2000 := by
   rw [hl, List.length_cons, List.length_map, List.length_take]
   omega
  obtain ⟨hp4, happ, hnew, hoth, hle4⟩ := app_own (E := encI) (ex := ex) (bytes := 8) (m := [(c.toNat : Int)]) (app_get (new := [some (Blk.row 3 [.int .i64 (c.toNat : Int)])]) hsd) (src_int (ex := true)) (by simp) (by simp; omega) (by simp; omega)
  simp only [show encI.sz = 1 from rfl] at happ
  have hsl := (List.getElem?_eq_some_iff.1 hsd).1
  refine vcE.ex (by simp (disch := first | assumption | omega) only [go_sem, ↓reduceIte, t48, t47, Int.ofNat_lt, hlt, Nat.reduceEqDiff, t46, ↓y1, ↓y2, t10, wc, ↓happ, w1]; rfl) ?_
  refine ⟨ks.length - (i + 1), by omega, i + 1, _, _, false, rfl, by omega, ?_, hnew, by simp; omega, ?_, ?_, ?_, ?_, ?_, ?_, ?_, ?_, ?_, ?_⟩
  ·rw [hl, List.take_add_one, hg]
   simp
  ·rw [hoth n0 (by omega) (by simp; omega)]
   exact app_get harr
  ·intro k hk
   rw [hoth k (by omega) (by simp; omega), List.getElem?_append_left (by omega)]
   exact hkeep k hk
  all_goals simp only [upd_app, Nat.reduceEqDiff, ↓reduceIte, t4, t6, t7, t9, t46, t47]
 clear t4 t6 t7 hsid1 harr1 hkeep1 hlen2 hp2
 rintro e' tm hp2 ⟨rfl, sid, l, ex, hl, hsd, hns, harr, hkeep, t4, t6, t7, t9, t10⟩
 -- each byte
 have hll : l.length = ks.length + 1 := by rw [hl, List.length_cons, List.length_map]
 refine vcE.then (fun e' tm' hp' => e' = .normal ∧ hp'[sid]? = some (some (.row 3 (encI.cs (zeroTo ks f 256 :: ks.map fun c => (c.toNat : Int))))) ∧ hp'[n0]? = some (some (.row 45 (encI.cs (clsTo ks f 256)))) ∧ hp'[0]? = some (some (.row 45 Z)) ∧ tm' 4 = .ptr 0 0 ∧ tm' 9 = .ptr n0 0 ∧ tm' 10 = .sl sid 0 (ks.length + 1) 1 l.length ex) ?_ ?_
 ·rw [hll] at t10
  refine vcE.step (by simp (disch := first | assumption | omega) only [go_sem, ↓reduceIte]; rfl) (vcE.block (vcE.loop (by intro l tm hp h; simp at h) (fun k tm' hp' => ∃ i : Nat, k = 256 - i ∧ i ≤ 256 ∧ hp'[sid]? = some (some (.row 3 (encI.cs (zeroTo ks f i :: ks.map fun c => (c.toNat : Int))))) ∧ hp'[n0]? = some (some (.row 45 (encI.cs (clsTo ks f i)))) ∧ (∀ k, k < n0 → hp'[k]? = hp1[k]?) ∧ tm' 4 = .ptr 0 0 ∧ tm' 6 = .func g [] ∧ tm' 7 = kv ∧ tm' 9 = .ptr n0 0 ∧ tm' 10 = .sl sid 0 (ks.length + 1) 1 l.length ex ∧ tm' 58 = .int .i64 (i : Int)) 256 ⟨0, rfl, Nat.zero_le _, by rw [hsd, hl]; rfl, by rw [harr, clsTo_zero, hZ], hkeep, ?_, ?_, ?_, ?_, ?_, ?_⟩ ?_))
  ·simp only [upd_app, Nat.reduceEqDiff, ↓reduceIte, t4]
  ·simp only [upd_app, Nat.reduceEqDiff, ↓reduceIte, t6]
  ·simp only [upd_app, Nat.reduceEqDiff, ↓reduceIte, t7]
  ·simp only [upd_app, Nat.reduceEqDiff, ↓reduceIte, t9]
  ·simp only [upd_app, Nat.reduceEqDiff, ↓reduceIte, t10, hll]
  ·simp only [upd_app, Nat.reduceEqDiff, ↓reduceIte]
   rfl
  clear t4 t6 t7 t9 t10 hsd harr hkeep
  rintro k tm hp3 ⟨i, rfl, hi, hsd, harr, hkeep, t4, t6, t7, t9, t10, t58⟩
  by_cases hlt : i < 256
  rotate_left
  ·have : i = 256 := by omega
   subst this
   refine vcE.ex (by simp (disch := first | assumption | omega) only [go_sem, ↓reduceIte, t58]; rfl) ?_
   refine ⟨rfl, hsd, harr, by rw [hkeep 0 (by omega)]; exact hr0, ?_, ?_, ?_⟩
   all_goals simp only [upd_app, Nat.reduceEqDiff, ↓reduceIte, t4, t9, t10]
  have hlt' : (i : Int) < 256 := by omega
  have hlv3 := hlv.keep (hp' := hp3) (fun k hk => hkeep k (by omega))
  have hfz := hlv3.frz
  have wu : IntKind.wrap .u8 (i : Int) = ((UInt8.ofNat i).toNat : Int) := by
   rw [wrap_u8 (by omega) (by omega), UInt8.toNat_ofNat']
   omega
  have ho := hof (UInt8.ofNat i)
  have hb := C1_bin ks (ofB f (UInt8.ofNat i)) hrise (by omega)
  have w1 := natW (x := (i : Int) + 1) (i + 1) (by omega) (by omega)
  have hlow : lowB ks (ofB f (UInt8.ofNat i)) ≤ ks.length := by
   rw [lowB]
   exact List.length_filter_le _ _
  have w2 := natW (x := ((lowB ks (ofB f (UInt8.ofNat i)) : Nat) : Int) + 1) (lowB ks (ofB f (UInt8.ofNat i)) + 1) (by omega) (by omega)
  have hsl := (List.getElem?_eq_some_iff.1 hsd).1
  have hnl := (List.getElem?_eq_some_iff.1 harr).1
  cases his : isB ks (ofB f (UInt8.ofNat i)) <;> rw [his] at hb
  ·have y1 : iaddrA 1 (.sl sid 0 (ks.length + 1) 1 l.length ex) (.int .i64 0) = some (.ptr sid 0) := iaddr_sl1 (i := 0) (by omega)
   have st := encI.sl_store1 (e := 3) (id := sid) (hp := hp3) rfl hsd (i := 0) (by simp) (b := (i : Int)) (v := .int .i64 (i : Int)) rfl (fun vs h => by cases h)
   refine vcE.ex (by simp (disch := first | assumption | omega) only [go_sem, ↓reduceIte, t58, hlt', Nat.reduceEqDiff, t7, t6, wu, ho, hfz, hb, t10, ↓y1, ↓st, w1]; rfl) ?_
   refine ⟨256 - (i + 1), by omega, i + 1, rfl, by omega, ?_, ?_, ?_, ?_, ?_, ?_, ?_, ?_, ?_⟩
   ·rw [List.getElem?_set_self hsl, zeroTo, if_neg (by rw [his]; simp)]
   ·rw [List.getElem?_set_ne (by omega), harr, clsTo_same _ _ _ his]
   ·intro k hk
    rw [List.getElem?_set_ne (by omega)]
    exact hkeep k hk
   all_goals simp only [upd_app, Nat.reduceEqDiff, ↓reduceIte, t4, t6, t7, t9, t10]
  ·have y1 : aaddrA 256 1 (.ptr n0 0) (.int .i64 (i : Int)) = some (.ptr n0 i) := by
    simp only [aaddrA]
    rw [if_pos (by omega)]
    simp [faddrA]
   have st := encI.sl_store1 (e := 45) (id := n0) (hp := hp3) rfl harr (i := i) (by rw [clsTo_len]; omega) (b := ((lowB ks (ofB f (UInt8.ofNat i)) + 1 : Nat) : Int)) (v := .int .i64 ((lowB ks (ofB f (UInt8.ofNat i)) + 1 : Nat) : Int)) rfl (fun vs h => by cases h)
   refine vcE.ex (by simp (disch := first | assumption | omega) only [go_sem, ↓reduceIte, t58, hlt', Nat.reduceEqDiff, t7, t6, wu, ho, hfz, hb, w2, t9, ↓y1, ↓st, w1]; rfl) ?_
   refine ⟨256 - (i + 1), by omega, i + 1, rfl, by omega, ?_, ?_, ?_, ?_, ?_, ?_, ?_, ?_, ?_⟩
   ·rw [List.getElem?_set_ne (by omega), zeroTo, if_pos his]
    exact hsd
   ·have : clsOf ks f (UInt8.ofNat i) = lowB ks (ofB f (UInt8.ofNat i)) + 1 := by rw [clsOf, if_pos his]
    rw [List.getElem?_set_self hnl, ← clsTo_set, this]
   ·intro k hk
    rw [List.getElem?_set_ne (by omega)]
    exact hkeep k hk
   all_goals simp only [upd_app, Nat.reduceEqDiff, ↓reduceIte, t4, t6, t7, t9, t10]
 clear t4 t6 t7 t9 t10 hsd harr hkeep hp2
 rintro e' tm hp2 ⟨rfl, hsd, harr, h0, t4, t9, t10⟩
 have hcl := clsTo_len ks f 256
 have hcc : (encI.cs (clsTo ks f 256)).length = 256 := by rw [encI_cs, List.length_map, hcl]
 have hZl : Z.length = 256 := by rw [← hZ, encI_cs, List.length_map, List.length_replicate]
 have hpk : pickA (some 256) (encI.cs (clsTo ks f 256)) 0 = some (.agg (encI.cs (clsTo ks f 256))) := by
  simp only [pickA]
  rw [if_pos (by omega), List.drop_zero, List.take_of_length_le (by omega)]
 have hst : storeA hp2 256 (.ptr 0 0) (.agg (encI.cs (clsTo ks f 256))) = some (hp2.set 0 (some (.row 45 (encI.cs (clsTo ks f 256))))) := by
  have ho : over Z 0 (encI.cs (clsTo ks f 256)) = encI.cs (clsTo ks f 256) := by
   rw [over, List.take_zero, List.nil_append, List.drop_eq_nil_of_le (by omega), List.append_nil]
  simp only [storeA, h0, cellsA, hcc, hZl, ho, Nat.zero_add, Nat.le_refl, and_self, if_true]
 have h0l := (List.getElem?_eq_some_iff.1 h0).1
 have hset : (hp2.set 0 (some (.row 45 (encI.cs (clsTo ks f 256)))))[0]? = some (some (.row 45 (encI.cs (clsTo ks f 256)))) := List.getElem?_set_self h0l
 have hset2 : (hp2.set 0 (some (.row 45 (encI.cs (clsTo ks f 256)))))[sid]? = some (some (.row 3 (encI.cs (zeroTo ks f 256 :: ks.map fun c => (c.toNat : Int))))) := by
  rw [List.getElem?_set_ne (by omega)]
  exact hsd
 refine vcE.ex (by simp (disch := first | assumption | omega) only [go_sem, ↓reduceIte, t9, harr, ↓hpk, Nat.reduceEqDiff, t10, t4, ↓hst]; rfl) ?_
 refine ⟨.tup [.agg (encI.cs (clsTo ks f 256)), .sl sid 0 (ks.length + 1) 1 l.length ex], ?_, ?_⟩
 ·simp only [resE, resEL, resE1, upd_app, Nat.reduceEqDiff, ↓reduceIte, t4, loadA, rowA, hset, hpk]
 ·have f2 := encI.sl_fresh (lo := l.length) (ex := ex) hset2
  rw [List.length_cons, List.length_map] at f2
  have f1 : ∀ (hp : HP) (l : List Int), freshL hp (encI.cs l) = some (encI.cs l) := by
   intro hp l
   rw [encI_cs]
   induction l with
   | nil => rfl
   | cons a l ih =>
    rw [List.map_cons]
    simp only [freshL, ih]
    rfl
  show fresh _ (.tup _) = _
  rw [fresh_tup]
  simp only [freshL, fresh_agg, f1]
  rw [show encI.sz = 1 from rfl] at f2
  rw [f2]
  simp only [clsL, someL, hks]
end
end Go.Gi
