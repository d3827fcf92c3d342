/- Bytes compared, sorted, made one of each, found: cmp.Less, slices.Sort, slices.BinarySearch at bytes. -/
/- One of each byte, and where a byte is: slices.Compact, slices.BinarySearch. -/
/- Where a byte is among rising ones: slices.BinarySearch. -/
import Derived.Test.YtakdhioafodhcaaGreatGiGlB
import Derived.Test.YtakdhioafodhcaaGreatGiSPE
set_option linter.unusedVariables false
set_option linter.unusedSimpArgs false
set_option linter.unusedSectionVars false

namespace Go.Gi
section
open Go Go.Proofs
def R1.byte : R1 UInt8 where
 v c := .int .u8 c.toNat
 un := fun
  | .int .u8 n => if 0 ≤ n ∧ n < 256 then some (UInt8.ofNat n.toNat) else none
  | _ => none
 un_v c := by
  have := c.toNat_lt
  show (if (0 : Int) ≤ (c.toNat : Int) ∧ (c.toNat : Int) < 256 then some (UInt8.ofNat (c.toNat : Int).toNat) else none) = some c
  rw [if_pos (by omega), Int.toNat_natCast, UInt8.ofNat_toNat]
 un_some x c h := by
  split at h
  ·split at h
   ·rename_i h0
    cases h
    have : ((UInt8.ofNat (‹Int›).toNat).toNat : Int) = ‹Int› := by
     rw [UInt8.toNat_ofNat']
     omega
    rw [this]
   ·cases h
  ·cases h
def elB : El1 UInt8 where
 E := encB
 v c := .int .u8 c.toNat
 hv _ := rfl
 one _ := rfl
 nt _ _ h := by cases h
 ce _ := rfl
 nv _ := rfl
 fz _ _ := rfl
def ltB (x y : UInt8) : Bool := decide (x.toNat < y.toNat)
theorem swoB : Sort.SWO ltB := by
 refine ⟨fun x => ?_, fun x y z h1 h2 => ?_, fun x y z h1 h2 => ?_⟩
 all_goals simp only [ltB, decide_eq_true_eq, decide_eq_false_iff_not] at *
 all_goals omega
theorem ltB_tot (x y : UInt8) (h1 : ltB x y = false) (h2 : ltB y x = false) : x = y := by
 simp only [ltB, decide_eq_false_iff_not] at h1 h2
 exact UInt8.toNat_inj.1 (by omega)
theorem pNaN (c : UInt8) : PCF Tryz.prog 86 [.int .u8 c.toNat] (.bool false) := by
 refine pcf_e hmG (TabOk.none _) comp86 (by decide) (by simp) (nidL_ok rfl) ?_
 refine vcE.ex (by simp (disch := first | assumption | omega) only [go_sem, ↓reduceIte, reduceCtorEq, Nat.reduceEqDiff]; rfl) ?_
 exact ⟨_, rfl, rfl⟩
theorem pNaN2 (c : UInt8) : PCF Tryz.prog 67 [.int .u8 c.toNat] (.bool false) := by
 refine pcf_e hmG (TabOk.none _) comp67 (by decide) (by simp) (nidL_ok rfl) ?_
 refine vcE.ex (by simp (disch := first | assumption | omega) only [go_sem, ↓reduceIte, reduceCtorEq, Nat.reduceEqDiff]; rfl) ?_
 exact ⟨_, rfl, rfl⟩
def B0 : Tab := (Tab.none.addR 86 (.cons .byte .nil) fun _ => .rd true (.bool false)).addR 67 (.cons .byte .nil) fun _ => .rd true (.bool false)
theorem B0_ok : TabOk Tryz.prog B0 := by
 refine TabOk.addR (TabOk.addR (TabOk.none _) ?_) ?_
 ·exact fun p => pNaN p.1
 ·exact fun p => pNaN2 p.1
theorem B0_nan (c : UInt8) : B0 86 [.int .u8 c.toNat] = some (.rd true (.bool false)) :=
 (Tab.addR_ne _ _ _ _ rfl _).trans (Tab.addR_self _ _ (.cons .byte .nil) _ (c, ()))
theorem B0_nan2 (c : UInt8) : B0 67 [.int .u8 c.toNat] = some (.rd true (.bool false)) :=
 Tab.addR_self _ _ (.cons .byte .nil) _ (c, ())
theorem pLess (x y : UInt8) : PCF Tryz.prog 66 [.int .u8 x.toNat, .int .u8 y.toNat] (.bool (ltB x y)) := by
 refine pcf_e hmG B0_ok comp66 (by decide) (by simp) (nidL_ok rfl) ?_
 have h1 := B0_nan x
 refine vcE.ex (by simp (disch := first | assumption | omega) only [go_sem, ↓reduceIte, reduceCtorEq, h1, Nat.reduceEqDiff]; rfl) ?_
 refine ⟨_, rfl, ?_⟩
 simp only [upd_app, Nat.reduceEqDiff, ↓reduceIte, ltB, Int.ofNat_lt]
 rfl
def B1 : Tab := B0.addR 66 (.cons .byte (.cons .byte .nil)) fun p => .rd true (.bool (ltB p.1 p.2.1))
theorem B1_ok : TabOk Tryz.prog B1 := TabOk.addR B0_ok fun p => pLess p.1 p.2.1
theorem B1_less : Lss elB ltB B1 66 := fun x y => Tab.addR_self _ _ (.cons .byte (.cons .byte .nil)) _ (x, y, ())
theorem B1_nan2 (c : UInt8) : B1 67 [.int .u8 c.toNat] = some (.rd true (.bool false)) :=
 (Tab.addR_ne _ _ _ _ rfl _).trans (B0_nan2 c)
def srtB : SrtF Tryz.prog 66 where
 fsd := 96
 fins := 76
 fhs := 77
 fo2 := 103
 fmd := 100
 fma := 99
 fcp := 79
 frv := 80
 fl64 := 85
 fl32 := 84
 fbl := 65
 fnp := 97
 fxs := 98
 fbp := 78
 fpi := 81
 fpe := 82
 fpt := 83
 fpdq := 64
 ti := 3
 tx := 123
 hsd' := hintL [(3, 6), (5, 6), (6, 6)]
 hins' := hintL [(4, 6), (6, 6)]
 hhs' := hintL [(10, 6)]
 ho2' := hintL [(1, 6)]
 hmd' := fun _ => 0
 hma' := fun _ => 0
 hcp' := fun _ => 0
 hrv' := hintL [(3, 6)]
 h64' := fun _ => 0
 hbl' := fun _ => 0
 hnp' := fun _ => 0
 hxs' := hintL [(1, 6), (2, 6), (3, 6)]
 hbp' := hintL [(10, 6)]
 hpi' := hintL [(5, 6), (11, 6), (16, 6), (17, 6), (22, 6), (23, 6)]
 hpe' := hintL [(1, 6), (3, 6), (5, 6), (8, 6)]
 hpt' := hintL [(1, 6), (3, 6), (5, 6), (8, 6), (10, 6), (13, 6), (15, 6), (18, 6), (21, 6)]
 hpdq' := hintL [(17, 6)]
 hsd := by kernel_rfl
 hins := by kernel_rfl
 hhs := by kernel_rfl
 ho2 := by kernel_rfl
 hmd := by kernel_rfl
 hma := by kernel_rfl
 hcp := by kernel_rfl
 hrv := by kernel_rfl
 h64 := by kernel_rfl
 hbl := by kernel_rfl
 hnp := by kernel_rfl
 hxs := by kernel_rfl
 hbp := by kernel_rfl
 hpi := by kernel_rfl
 hpe := by kernel_rfl
 hpt := by kernel_rfl
 hpdq := by kernel_rfl
end
section
open Go Go.Proofs
def cmpTo (d : Array UInt8) : Nat → List UInt8
 | 0 => []
 | n + 1 => if n = 0 ∨ d[n]! ≠ d[n - 1]! then cmpTo d n ++ [d[n]!] else cmpTo d n
theorem cmpTo_len (d : Array UInt8) : ∀ n, (cmpTo d n).length ≤ n
 | 0 => Nat.le_refl _
 | n + 1 => by
  have := cmpTo_len d n
  rw [cmpTo]
  split
  ·rw [List.length_append, List.length_singleton]
   omega
  ·omega
theorem cmpTo_pos (d : Array UInt8) : ∀ n, 0 < n → 0 < (cmpTo d n).length
 | 0, h => by omega
 | n + 1, _ => by
  rw [cmpTo]
  split
  ·rw [List.length_append, List.length_singleton]
   omega
  ·rename_i h
   exact cmpTo_pos d n (by omega)
theorem cmpTo_all {d : Array UInt8} : ∀ {n : Nat}, n ≤ d.size → (∀ i, 1 ≤ i → i < n → d[i]! ≠ d[i - 1]!) → cmpTo d n = d.toList.take n
 | 0, _, _ => by simp [cmpTo]
 | n + 1, hn, h => by
  rw [cmpTo, if_pos, cmpTo_all (n := n) (by omega) (fun i h1 h2 => h i h1 (by omega)), List.take_add_one, arr_get (by omega)]
  ·rfl
  ·rcases Nat.eq_zero_or_pos n with h0 | h0
   ·exact .inl h0
   ·exact .inr (h n h0 (by omega))
theorem take_set {l : List UInt8} {k : Nat} {x : UInt8} (h : k < l.length) : (l.set k x).take (k + 1) = l.take k ++ [x] := by
 rw [List.take_add_one, List.getElem?_set_self h, List.take_set_of_le (Nat.le_refl _)]
 rfl
theorem clr (l : List UInt8) (k m : Nat) (h : k + m = l.length) : over (encB.cs l) k (List.replicate m (.int .u8 0)) = encB.cs (l.take k ++ List.replicate m 0) := by
 rw [over, encB_cs, encB_cs, List.drop_eq_nil_of_le (by simp; omega), List.append_nil, List.map_append, List.map_take, List.map_replicate]
 rfl
def LiveB (hp : HP) (v : AV) (l : List UInt8) : Prop := (l = [] ∧ v = .nils) ∨ ∃ (id lo : Nat) (ex : Bool) (e : TypeId) (z : List UInt8), v = .sl id 0 l.length 1 lo ex ∧ hp[id]? = some (some (.row e (encB.cs (l ++ z))))
theorem LiveB.frz {hp : HP} {v : AV} {l : List UInt8} (h : LiveB hp v l) : frz hp v = some (encB.S l) := by
 rcases h with ⟨rfl, rfl⟩ | ⟨id, lo, ex, e, z, rfl, h⟩
 ·rfl
 ·have hn : nidL (encB.cs (l ++ z)) = true := encB.cs_nid _
  have h1 : (encB.cs (l ++ z)).length = l.length + z.length := by rw [encB_cs, List.length_map, List.length_append]
  simp only [Gi.frz, h, hn, Bool.and_true, h1]
  rw [if_pos (by simp)]
  rw [encB_cs, List.drop_zero, Nat.mul_one, List.map_append, List.take_append_of_le_length (by simp), List.take_of_length_le (by simp), Enc.S, encB_cs]
theorem LiveB.len {hp hp' : HP} {v : AV} {l : List UInt8} (h : LiveB hp v l) : lenA hp' v = some (.int .i64 (l.length : Int)) := by
 rcases h with ⟨rfl, rfl⟩ | ⟨id, lo, ex, e, z, rfl, h⟩
 ·rfl
 ·rfl
theorem LiveB.at_ {hp : HP} {v : AV} {l : List UInt8} (h : LiveB hp v l) {i : Nat} {c : UInt8} (hi : l[i]? = some c) : ∃ p, iaddrA 1 v (.int .i64 (i : Int)) = some p ∧ loadA hp none p = some (.int .u8 c.toNat) := by
 have hlt := (List.getElem?_eq_some_iff.1 hi).1
 rcases h with ⟨rfl, rfl⟩ | ⟨id, lo, ex, e, z, rfl, h⟩
 ·simp at hlt
 ·refine ⟨.ptr id i, ?_, ?_⟩
  ·simp only [iaddrA]
   rw [if_pos ⟨trivial, by omega, by omega⟩]
   simp
  ·simp only [loadA, rowA, h]
   exact encB.pick1 (l := l ++ z) rfl (by rw [List.getElem?_append_left hlt]; exact hi) (v := .int .u8 c.toNat) rfl rfl
theorem cmp_calls {hp : HP} {id N : Nat} {e : TypeId} {d : Array UInt8} {v : AV} (hN : d.size = N) (hv : v = bld id N 1) (hs : Srt elB e id hp hp d) (hsz : N ≤ 1000000000000000000) :
  ACalls Tryz.prog 48 [v] hp fun r hp' => LiveB hp' r (cmpTo d N) ∧ (∀ k, k ≠ id → hp'[k]? = hp[k]?) ∧ hp'.length = hp.length := by
 refine calls_e hmG (TabOk.none _) comp48 (by rfl) (by simp) ?_
 by_cases h0 : N = 0
 ·subst h0
  have : v = .nils := by rw [hv]; rfl
  subst this
  refine vcE.ex (by simp (disch := first | assumption | omega) only [go_sem, ↓reduceIte, reduceCtorEq]; rfl) ?_
  exact ⟨_, rfl, .inl ⟨rfl, rfl⟩, fun k _ => rfl, rfl⟩
 have hvv : v = .sl id 0 N 1 N false := by rw [hv, bld, if_neg h0]
 subst hvv
 clear hv
 have hid : id < hp.length := (List.getElem?_eq_some_iff.1 (hs.get (i := 0) (by omega))).1
 have ia : ∀ i : Nat, i < N → iaddrA 1 (.sl id 0 N 1 N false) (.int .i64 (i : Int)) = some (.ptr id i) := by
  intro i hi
  simp only [iaddrA]
  rw [if_pos ⟨trivial, by omega, by omega⟩]
  simp
 by_cases h1 : N = 1
 ·subst h1
  refine vcE.ex (by simp (disch := first | assumption | omega) only [go_sem, ↓reduceIte, reduceCtorEq]; rfl) ?_
  refine ⟨_, rfl, .inr ⟨id, 1, false, e, [], ?_, ?_⟩, fun k _ => rfl, rfl⟩
  ·rw [cmpTo_all (n := 1) (by omega) (fun i h1 h2 => by omega), List.length_take]
   simp only [upd_app, Nat.reduceEqDiff, ↓reduceIte, Array.length_toList, hN, Nat.min_self]
  ·rw [cmpTo_all (n := 1) (by omega) (fun i h1 h2 => by omega), List.append_nil, hs.get (i := 0) (by omega), List.take_of_length_le (by simp [hN])]
   rfl
 have h2 : ¬ (N : Int) < 2 := by omega
 refine vcE.step (by simp (disch := first | assumption | omega) only [go_sem, ↓reduceIte]; rfl) (vcE.step (by simp (disch := first | assumption | omega) only [go_sem, ↓reduceIte, reduceCtorEq, h2, decide_false]; rfl) ?_)
 refine vcE.then (fun e' tm' hp' => e' = .ret ∧ RetE [.t 2] (fun r hp' => LiveB hp' r (cmpTo d N) ∧ (∀ k, k ≠ id → hp'[k]? = hp[k]?) ∧ hp'.length = hp.length) .ret tm' hp' ∨ e' = .normal ∧ hp' = hp ∧ tm' 0 = .sl id 0 N 1 N false ∧ cmpTo d N = d.toList.take N) ?_ ?_
 rotate_left
 ·rintro e' tm hp' (⟨rfl, h⟩ | ⟨rfl, rfl, t0, hall⟩)
  ·exact h
  ·refine vcE.ex (by simp (disch := first | assumption | omega) only [go_sem, ↓reduceIte, t0]; rfl) ?_
   refine ⟨_, rfl, .inr ⟨id, N, false, e, [], ?_, ?_⟩, fun k _ => rfl, rfl⟩
   ·rw [hall, List.length_take]
    simp only [upd_app, Nat.reduceEqDiff, ↓reduceIte, Array.length_toList, hN, Nat.min_self]
   ·rw [hall, List.append_nil, hs.get (i := 0) (by omega), List.take_of_length_le (by simp [hN])]
    rfl
 refine vcE.step (by simp (disch := first | assumption | omega) only [go_sem, ↓reduceIte]; rfl) (vcE.block (vcE.loop (by intro l tm hp h; simp [RetE] at h) (fun k tm' hp' => ∃ i : Nat, k = N - i ∧ 1 ≤ i ∧ i ≤ N ∧ hp = hp' ∧ (∀ j, 1 ≤ j → j < i → d[j]! ≠ d[j - 1]!) ∧ tm' 0 = .sl id 0 N 1 N false ∧ tm' 3 = .int .i64 (i : Int)) (N - 1) ⟨1, rfl, by omega, by omega, rfl, fun j h1 h2 => by omega, rfl, rfl⟩ ?_))
 rintro k tm hp' ⟨i, rfl, hi1, hiN, rfl, hne, t0, t3⟩
 by_cases hlt : i < N
 rotate_left
 ·have : i = N := by omega
  subst this
  refine vcE.ex (by simp (disch := first | assumption | omega) only [go_sem, ↓reduceIte, t3, reduceCtorEq, t0, Nat.reduceEqDiff, Int.ofNat_lt, hlt, decide_false]; rfl) ?_
  refine .inr ⟨rfl, rfl, ?_, cmpTo_all (by omega) hne⟩
  simp only [upd_app, Nat.reduceEqDiff, ↓reduceIte, t0]
 have g1 : i < d.size := by omega
 have g2 : i - 1 < d.size := by omega
 have x1 := hs.get g1
 have y1 := ia i hlt
 have y2 := ia (i - 1) (by omega)
 have p1 := pick_at (L := elB) g1
 have p2 := pick_at (L := elB) g2
 have w1 := natW (x := (i : Int) - 1) (i - 1) (by omega) (by omega)
 have w2 := natW (x := (i : Int) + 1) (i + 1) (by omega) (by omega)
 have qe : binA .eql .prim (elB.v d[i]!) (elB.v d[i - 1]!) = some (.bool (decide (d[i]! = d[i - 1]!))) := by
  simp only [binA, intA, elB, if_true]
  congr 2
  simp only [decide_eq_decide, Int.natCast_inj, UInt8.toNat_inj]
 have hf : ∀ x, oneA (elB.v x) = true := fun x => rfl
 by_cases heq : d[i]! = d[i - 1]!
 rotate_left
 ·rw [decide_eq_false heq] at qe
  refine vcE.ex (by simp (disch := first | assumption | omega) only [go_sem, ↓reduceIte, t3, reduceCtorEq, t0, Nat.reduceEqDiff, Int.ofNat_lt, hlt, y1, x1, ↓p1, w1, y2, ↓p2, ↓qe, w2]; rfl) ?_
  refine ⟨N - (i + 1), by omega, i + 1, rfl, by omega, by omega, rfl, ?_, ?_, ?_⟩
  ·intro j h1 h2
   by_cases hj : j = i
   ·rw [hj]
    exact heq
   ·exact hne j h1 (by omega)
  all_goals simp only [upd_app, Nat.reduceEqDiff, ↓reduceIte, t0]
 rw [decide_eq_true heq] at qe
 have hc0 : cmpTo d (i + 1) = d.toList.take i := by
  rw [cmpTo, if_neg, cmpTo_all (by omega) hne]
  rintro (h | h)
  ·omega
  ·exact h heq
 have hsl2 : sliceA 1 (.sl id 0 N 1 N false) (some (.int .i64 (i : Int))) none none = some (.sl id i (N - i) 1 (N - i) false) := by
  simp [sliceA, bndA, cutA]
  omega
 refine vcE.step (by simp (disch := first | assumption | omega) only [go_sem, ↓reduceIte, t3, reduceCtorEq, t0, Nat.reduceEqDiff, Int.ofNat_lt, hlt]; rfl) ?_
 refine vcE.seq (vcE.block (vcE.step (by simp (disch := first | assumption | omega) only [go_sem, ↓reduceIte, reduceCtorEq, t0, Nat.reduceEqDiff, t3, y1, x1, ↓p1, w1, y2, ↓p2, ↓qe]; rfl) (vcE.condTrue (by simp only [evE, upd_app, Nat.reduceEqDiff, ↓reduceIte]) (vcE.step (by simp (disch := first | assumption | omega) only [go_sem, ↓reduceIte, reduceCtorEq, t0, Nat.reduceEqDiff, t3, ↓hsl2]; rfl) ?_))))
 -- the others, one after the other
 refine vcE.then (fun e' tm' hp' => e' = .normal ∧ ∃ (d' : Array UInt8) (k : Nat), k = (cmpTo d N).length ∧ d'.size = N ∧ k ≤ N ∧ Srt elB e id hp hp' d' ∧ hp'.length = hp.length ∧ (∀ k, k ≠ id → hp'[k]? = hp[k]?) ∧ d'.toList.take k = cmpTo d N ∧ tm' 0 = .sl id 0 N 1 N false ∧ tm' 3 = .int .i64 (k : Int)) ?_ ?_
 rotate_left
 ·rintro e' tm' hp' ⟨rfl, d', k, hk, hd', hkN, s', hl', ho', htk, u0, u3⟩
  have hk0 : 0 < k := by
   rw [hk]
   exact cmpTo_pos d N (by omega)
  have hs3 : sliceA 1 (.sl id 0 N 1 N false) (some (.int .i64 (k : Int))) none none = some (.sl id k (N - k) 1 (N - k) false) := by
   simp [sliceA, bndA, cutA]
   omega
  have hs4 : sliceA 1 (.sl id 0 N 1 N false) none (some (.int .i64 (k : Int))) none = some (.sl id 0 k 1 N false) := by
   simp [sliceA, bndA, cutA]
   omega
  have hrow := s'.get (i := 0) (by omega)
  have hcl : clearA hp' [.int .u8 0] (.sl id k (N - k) 1 (N - k) false) = some (hp'.set id (some (.row e (encB.cs (d'.toList.take k ++ List.replicate (N - k) 0))))) ∨ N - k = 0 := by
   by_cases hz : N - k = 0
   ·exact .inr hz
   ·left
    have hlen : (elB.E.cs d'.toList).length = N := by
     show (encB.cs d'.toList).length = N
     rw [encB_cs, List.length_map, Array.length_toList, hd']
    simp only [clearA, hrow]
    rw [if_neg hz, if_pos ⟨rfl, by rw [hlen]; omega⟩, ← clr d'.toList k (N - k) (by rw [Array.length_toList, hd']; omega)]
    rfl
  rcases hcl with hcl | hz
  ·refine vcE.ex (by simp (disch := first | assumption | omega) only [go_sem, ↓reduceIte, u0, Nat.reduceEqDiff, u3, ↓hs3, ↓hcl, reduceCtorEq, ↓hs4]; rfl) ?_
   refine .inl ⟨rfl, _, rfl, .inr ⟨id, N, false, e, List.replicate (N - k) 0, ?_, ?_⟩, ?_, ?_⟩
   ·rw [← hk]
    simp only [upd_app, Nat.reduceEqDiff, ↓reduceIte]
   ·rw [List.getElem?_set_self (by omega), htk]
   ·intro k' hk'
    rw [List.getElem?_set_ne (Ne.symm hk')]
    exact ho' k' hk'
   ·rw [List.length_set, hl']
  ·have hcl : clearA hp' [.int .u8 0] (.sl id k (N - k) 1 (N - k) false) = some hp' := by
    simp only [clearA, if_pos hz]
   refine vcE.ex (by simp (disch := first | assumption | omega) only [go_sem, ↓reduceIte, u0, Nat.reduceEqDiff, u3, ↓hs3, ↓hcl, reduceCtorEq, ↓hs4]; rfl) ?_
   refine .inl ⟨rfl, _, rfl, .inr ⟨id, N, false, e, [], ?_, ?_⟩, ho', hl'⟩
   ·rw [← hk]
    simp only [upd_app, Nat.reduceEqDiff, ↓reduceIte]
   ·rw [hrow, List.append_nil, ← htk, List.take_of_length_le (by rw [Array.length_toList, hd']; omega)]
    rfl
 have hl2 : ∀ hp : HP, lenA hp (.sl id i (N - i) 1 (N - i) false) = some (.int .i64 ((N - i : Nat) : Int)) := fun _ => rfl
 refine vcE.step (by simp (disch := first | assumption | omega) only [go_sem, ↓reduceIte]; rfl) (vcE.block (vcE.loop (by intro l tm hp h; simp at h) (fun m tm' hp' => ∃ (j k : Nat) (d' : Array UInt8), m = N - i - j ∧ 1 ≤ j ∧ i + j ≤ N ∧ k = (cmpTo d (i + j)).length ∧ k + 1 ≤ i + j ∧ d'.size = N ∧ Srt elB e id hp hp' d' ∧ hp'.length = hp.length ∧ (∀ k, k ≠ id → hp'[k]? = hp[k]?) ∧ d'.toList.take k = cmpTo d (i + j) ∧ (∀ q, i + j - 1 ≤ q → q < N → d'[q]! = d[q]!) ∧ tm' 0 = .sl id 0 N 1 N false ∧ tm' 3 = .int .i64 (k : Int) ∧ tm' 4 = .sl id i (N - i) 1 (N - i) false ∧ tm' 5 = .int .i64 (j : Int)) (N - i - 1) ⟨1, i, d, rfl, by omega, by omega, ?_, by omega, hN, hs, rfl, fun _ _ => rfl, hc0.symm, fun _ _ _ => rfl, ?_, ?_, ?_, ?_⟩ ?_))
 ·rw [hc0, List.length_take, Array.length_toList]
  omega
 ·simp only [upd_app, Nat.reduceEqDiff, ↓reduceIte, t0]
 ·simp only [upd_app, Nat.reduceEqDiff, ↓reduceIte, t3]
 ·simp only [upd_app, Nat.reduceEqDiff, ↓reduceIte]
 ·simp only [upd_app, Nat.reduceEqDiff, ↓reduceIte]
  rfl
 clear t0 t3 y1 y2 x1 p1 p2 w1 w2 qe
 rintro m tm hp' ⟨j, k, d', rfl, hj1, hjN, hk, hkj, hd', s', hl', ho', htk, hsame, t0, t3, t4, t5⟩
 by_cases hlj : j < N - i
 rotate_left
 ·have hjj : i + j = N := by omega
  refine vcE.ex (by simp (disch := first | assumption | omega) only [go_sem, ↓reduceIte, t5, Nat.reduceEqDiff, t4, hl2, Int.ofNat_lt, hlj, decide_false]; rfl) ?_
  refine ⟨rfl, d', k, by rw [hk, hjj], hd', by omega, s', hl', ho', by rw [htk, hjj], ?_, ?_⟩
  all_goals simp only [upd_app, Nat.reduceEqDiff, ↓reduceIte, t0, t3]
 have g1 : i + j < d'.size := by omega
 have g2 : i + j - 1 < d'.size := by omega
 have x1 := s'.get g1
 have ib : ∀ q : Nat, q < N - i → iaddrA 1 (.sl id i (N - i) 1 (N - i) false) (.int .i64 (q : Int)) = some (.ptr id (i + q)) := by
  intro q hq
  simp only [iaddrA]
  rw [if_pos ⟨trivial, by omega, by omega⟩]
  simp
 have y1 := ib j hlj
 have y2 := ib (j - 1) (by omega)
 rw [show i + (j - 1) = i + j - 1 by omega] at y2
 have p1 := pick_at (L := elB) g1
 have p2 := pick_at (L := elB) g2
 rw [hsame (i + j) (by omega) (by omega)] at p1
 rw [hsame (i + j - 1) (by omega) (by omega)] at p2
 have w1 := natW (x := (j : Int) - 1) (j - 1) (by omega) (by omega)
 have w2 := natW (x := (j : Int) + 1) (j + 1) (by omega) (by omega)
 have w3 := natW (x := (k : Int) + 1) (k + 1) (by omega) (by omega)
 have qn : binA .neq .prim (elB.v d[i + j]!) (elB.v d[i + j - 1]!) = some (.bool (!decide (d[i + j]! = d[i + j - 1]!))) := by
  simp only [binA, intA, elB, if_true]
  congr 3
  simp only [decide_eq_decide, Int.natCast_inj, UInt8.toNat_inj]
 have hco : cmpTo d (i + (j + 1)) = if i + j = 0 ∨ d[i + j]! ≠ d[i + j - 1]! then cmpTo d (i + j) ++ [d[i + j]!] else cmpTo d (i + j) := rfl
 by_cases heq2 : d[i + j]! = d[i + j - 1]!
 ·rw [decide_eq_true heq2, Bool.not_true] at qn
  rw [if_neg (by rintro (h | h); omega; exact h heq2)] at hco
  refine vcE.ex (by simp (disch := first | assumption | omega) only [go_sem, ↓reduceIte, t5, Nat.reduceEqDiff, t4, hl2, Int.ofNat_lt, hlj, y1, x1, ↓p1, w1, y2, ↓p2, ↓qn, w2]; rfl) ?_
  refine ⟨N - i - (j + 1), by omega, j + 1, k, d', rfl, by omega, by omega, by rw [hco, hk], by omega, hd', s', hl', ho', by rw [hco, htk], fun q h1 h2 => hsame q (by omega) h2, ?_, ?_, ?_, ?_⟩
  all_goals simp only [upd_app, Nat.reduceEqDiff, ↓reduceIte, t0, t3, t4]
 ·rw [decide_eq_false heq2, Bool.not_false] at qn
  rw [if_pos (.inr heq2)] at hco
  have gk : k < d'.size := by omega
  have y3 := ia k (by omega)
  obtain ⟨h1, s2⟩ := s'.set gk d[i + j]!
  refine vcE.ex (by simp (disch := first | assumption | omega) only [go_sem, ↓reduceIte, t5, Nat.reduceEqDiff, t4, hl2, Int.ofNat_lt, hlj, y1, x1, ↓p1, w1, y2, ↓p2, ↓qn, reduceCtorEq, t0, t3, y3, ↓h1, w3, w2]; rfl) ?_
  refine ⟨N - i - (j + 1), by omega, j + 1, k + 1, _, rfl, by omega, by omega, by rw [hco, List.length_append, hk]; rfl, by omega, by simpa using hd', s2, by rw [List.length_set, hl'], ?_, ?_, ?_, ?_, ?_, ?_, ?_⟩
  ·intro k' hk'
   rw [List.getElem?_set_ne (Ne.symm hk')]
   exact ho' k' hk'
  ·rw [hco, Array.toList_setIfInBounds, take_set (by simpa using gk), htk]
  ·intro q h1 h2
   rw [← hsame q (by omega) h2]
   simp only [Array.getElem!_eq_getD, Array.getD_eq_getD_getElem?]
   rw [Array.getElem?_setIfInBounds_ne (by omega)]
  all_goals simp only [upd_app, Nat.reduceEqDiff, ↓reduceIte, t0, t4]
end
section
open Go Go.Proofs
def lowB (ks : List UInt8) (c : UInt8) : Nat := (ks.filter (ltB · c)).length
def Rise (ks : List UInt8) : Prop := ks.Pairwise fun x y => ltB x y = true
theorem rise_at {ks : List UInt8} (h : Rise ks) {i j : Nat} {x y : UInt8} (hi : ks[i]? = some x) (hj : ks[j]? = some y) (hij : i < j) : ltB x y = true := by
 obtain ⟨h1, rfl⟩ := List.getElem?_eq_some_iff.1 hi
 obtain ⟨h2, rfl⟩ := List.getElem?_eq_some_iff.1 hj
 exact List.pairwise_iff_getElem.1 h i j h1 h2 hij
theorem low_eq {ks : List UInt8} {c : UInt8} {i : Nat} (hi : i ≤ ks.length) (h1 : ∀ k x, k < i → ks[k]? = some x → ltB x c = true) (h2 : ∀ k x, i ≤ k → ks[k]? = some x → ltB x c = false) : lowB ks c = i := by
 rw [lowB, ← List.take_append_drop i ks, List.filter_append, List.filter_eq_self.2, List.filter_eq_nil_iff.2]
 ·simp [hi]
 ·intro a ha
  obtain ⟨k, hk⟩ := List.mem_iff_getElem?.1 ha
  rw [List.getElem?_drop] at hk
  rw [h2 (i + k) a (by omega) hk]
  simp
 ·intro a ha
  obtain ⟨k, hk⟩ := List.mem_iff_getElem?.1 ha
  have hlt := (List.getElem?_eq_some_iff.1 hk).1
  rw [List.length_take] at hlt
  rw [List.getElem?_take_of_lt (by omega)] at hk
  exact h1 k a (by omega) hk
theorem eqB (x y : UInt8) : binA .eql .prim (.int .u8 (x.toNat : Int)) (.int .u8 (y.toNat : Int)) = some (.bool (decide (x = y))) := by
 simp only [binA, intA, if_true]
 congr 2
 simp only [decide_eq_decide, Int.natCast_inj, UInt8.toNat_inj]
def isB (ks : List UInt8) (c : UInt8) : Bool := decide (ks[lowB ks c]? = some c)
theorem pBin (ks : List UInt8) (c : UInt8) (hr : Rise ks) (hl : ks.length ≤ 1000000) : PCF Tryz.prog 49 [encB.S ks, .int .u8 c.toNat] (.tup [.int .i64 (lowB ks c : Nat), .bool (isB ks c)]) := by
 refine pcf_e hmG B1_ok comp49 (by decide) (by simp) (nidL_ok (by simp only [nidL, nid, Enc.S_nid, Bool.and_self])) ?_
 have hat : ∀ (i : Nat) (x : UInt8), ks[i]? = some x → iaddrA 1 (encB.S ks) (.int .i64 (i : Int)) = some (.fptr (encB.cs ks) i) ∧ pickA none (encB.cs ks) i = some (.int .u8 x.toNat) := by
  intro i x h
  have hlt := (List.getElem?_eq_some_iff.1 h).1
  have hne : encB.cs ks ≠ [] := by
   intro h0
   rw [encB_cs, List.map_eq_nil_iff] at h0
   rw [h0] at hlt
   simp at hlt
  refine ⟨?_, encB.pick1 (l := ks) rfl h (v := .int .u8 x.toNat) rfl rfl⟩
  simp only [iaddrA, Enc.S]
  rw [if_pos ⟨hne, by omega, by omega⟩, Int.toNat_natCast, Nat.mul_one]
 refine vcE.step (by simp (disch := first | assumption | omega) only [go_sem, ↓reduceIte]; rfl) (vcE.step (by simp (disch := first | assumption | omega) only [go_sem, ↓reduceIte, reduceCtorEq]; rfl) (vcE.step (by simp (disch := first | assumption | omega) only [go_sem, ↓reduceIte, Nat.reduceEqDiff]; rfl) ?_))
 refine vcE.then (fun e' tm' hp' => e' = .normal ∧ hp' = [] ∧ tm' 0 = encB.S ks ∧ tm' 1 = .int .u8 c.toNat ∧ tm' 6 = .int .i64 (ks.length : Int) ∧ tm' 7 = .int .i64 (lowB ks c : Nat)) ?_ ?_
 ·refine vcE.block (vcE.loop (by intro l tm hp h; simp at h) (fun k tm' hp' => ∃ i j : Nat, k = j - i ∧ i ≤ j ∧ j ≤ ks.length ∧ (∀ k x, k < i → ks[k]? = some x → ltB x c = true) ∧ (∀ k x, j ≤ k → ks[k]? = some x → ltB x c = false) ∧ hp' = [] ∧ tm' 0 = encB.S ks ∧ tm' 1 = .int .u8 c.toNat ∧ tm' 6 = .int .i64 (ks.length : Int) ∧ tm' 7 = .int .i64 (i : Int) ∧ tm' 8 = .int .i64 (j : Int)) ks.length ⟨0, ks.length, rfl, Nat.zero_le _, Nat.le_refl _, fun k x h => by omega, ?_, rfl, ?_, ?_, ?_, ?_, ?_⟩ ?_)
  ·intro k x h1 h2
   have := (List.getElem?_eq_some_iff.1 h2).1
   omega
  iterate 5 first | rfl | (simp only [upd_app, Nat.reduceEqDiff, ↓reduceIte]; done) | (simp only [upd_app, Nat.reduceEqDiff, ↓reduceIte]; rfl)
  rintro k tm hp ⟨i, j, rfl, hij, hjl, h1, h2, rfl, t0, t1, t6, t7, t8⟩
  by_cases hlt : i < j
  rotate_left
  ·refine vcE.ex (by simp (disch := first | assumption | omega) only [go_sem, ↓reduceIte, t7, Nat.reduceEqDiff, t8, Int.ofNat_lt, hlt, decide_false]; rfl) ?_
   have hlow : lowB ks c = i := low_eq (by omega) h1 (fun k x h => h2 k x (by omega))
   refine ⟨rfl, rfl, ?_, ?_, ?_, ?_⟩
   all_goals simp only [upd_app, Nat.reduceEqDiff, ↓reduceIte, t0, t1, t6, t7, hlow]
  have w1 := natW (x := (i : Int) + (j : Int)) (i + j) (by omega) (by omega)
  have w2 := wrapU (n := i + j) (by omega)
  have s1 : binA .shr .prim (.int .u64 ((i + j : Nat) : Int)) (.int .u64 1) = some (.int .u64 (((i + j) / 2 : Nat) : Int)) := bshr (x := i + j) (k := 1) (q := .u64) (K := .prim) (by omega)
  have w3 := natW (x := (((i + j) / 2 : Nat) : Int)) ((i + j) / 2) rfl (by omega)
  generalize hm : (i + j) / 2 = m at *
  have w4 := natW (x := (m : Int) + 1) (m + 1) (by omega) (by omega)
  have hml : m < ks.length := by omega
  obtain ⟨y1, p1⟩ := hat m ks[m] (List.getElem?_eq_getElem hml)
  have hc := B1_less ks[m] c
  simp only [elB] at hc
  cases hl : ltB ks[m] c <;> rw [hl] at hc
  ·refine vcE.ex (by simp (disch := first | assumption | omega) only [go_sem, ↓reduceIte, t7, Nat.reduceEqDiff, t8, Int.ofNat_lt, hlt, w1, w2, ↓s1, w3, reduceCtorEq, t0, y1, ↓p1, t1, hc]; rfl) ?_
   refine ⟨m - i, by omega, i, m, rfl, by omega, by omega, h1, ?_, rfl, ?_, ?_, ?_, ?_, ?_⟩
   ·intro k x hk hx
    rcases Nat.lt_or_ge m k with h | h
    ·cases hq : ltB x c with
     | false => rfl
     | true =>
      have := swoB.trans _ _ _ (rise_at hr (List.getElem?_eq_getElem hml) hx h) hq
      rw [hl] at this
      cases this
    ·have : k = m := by omega
     subst this
     rw [List.getElem?_eq_getElem hml] at hx
     cases hx
     exact hl
   all_goals simp only [upd_app, Nat.reduceEqDiff, ↓reduceIte, t0, t1, t6, t7]
  ·refine vcE.ex (by simp (disch := first | assumption | omega) only [go_sem, ↓reduceIte, t7, Nat.reduceEqDiff, t8, Int.ofNat_lt, hlt, w1, w2, ↓s1, w3, reduceCtorEq, t0, y1, ↓p1, t1, hc, w4]; rfl) ?_
   refine ⟨j - (m + 1), by omega, m + 1, j, rfl, by omega, by omega, ?_, h2, rfl, ?_, ?_, ?_, ?_, ?_⟩
   ·intro k x hk hx
    rcases Nat.lt_or_ge k m with h | h
    ·exact swoB.trans _ _ _ (rise_at hr hx (List.getElem?_eq_getElem hml) h) hl
    ·have : k = m := by omega
     subst this
     rw [List.getElem?_eq_getElem hml] at hx
     cases hx
     exact hl
   all_goals simp only [upd_app, Nat.reduceEqDiff, ↓reduceIte, t0, t1, t6, t8]
 rintro e' tm hp' ⟨rfl, rfl, t0, t1, t6, t7⟩
 by_cases hlt : lowB ks c < ks.length
 rotate_left
 ·have hb : isB ks c = false := by
   rw [isB, List.getElem?_eq_none (by omega)]
   simp
  rw [hb]
  refine vcE.ex (by simp (disch := first | assumption | omega) only [go_sem, ↓reduceIte, t7, Nat.reduceEqDiff, t6, Int.ofNat_lt, hlt, decide_false]; rfl) ?_
  exact ⟨_, rfl, rfl⟩
 have hg := List.getElem?_eq_getElem hlt
 obtain ⟨y1, p1⟩ := hat _ _ hg
 have hb : isB ks c = decide (ks[lowB ks c] = c) := by
  simp only [isB, hg, Option.some.injEq]
 rw [hb]
 have hn := B1_nan2 ks[lowB ks c]
 have qe := eqB ks[lowB ks c] c
 generalize ks[lowB ks c] = y at *
 by_cases he : y = c
 ·rw [decide_eq_true he] at qe ⊢
  refine vcE.ex (by simp (disch := first | assumption | omega) only [go_sem, ↓reduceIte, t7, Nat.reduceEqDiff, t6, Int.ofNat_lt, hlt, reduceCtorEq, t0, y1, ↓p1, t1, ↓qe]; rfl) ?_
  exact ⟨_, rfl, rfl⟩
 ·rw [decide_eq_false he] at qe ⊢
  refine vcE.ex (by simp (disch := first | assumption | omega) only [go_sem, ↓reduceIte, t7, Nat.reduceEqDiff, t6, Int.ofNat_lt, hlt, reduceCtorEq, t0, y1, ↓p1, t1, ↓qe, hn]; rfl) ?_
  exact ⟨_, rfl, rfl⟩
end
end Go.Gi
