/- Bytes, whole numbers and truth values as elements; glob.fold, Match's comparing functions, glob.Check: what they give. -/
/- glob.Fold, bytes.Count of one byte, bytes.Repeat of one: what they give. -/
import Derived.Test.YtakdhioafodhcaaGreatGoC
import Derived.Test.YtakdhioafodhcaaGreatGiAU
import Derived.Test.YtakdhioafodhcaaGreatGiOW
import Derived.Test.YtakdhioafodhcaaGreatGiXB
set_option linter.unusedVariables false
set_option linter.unusedSimpArgs false
set_option linter.unusedSectionVars false

namespace Go.Gi
section
open Go Go.Proofs
theorem hmG : Tryz.prog.follows .mixedOrders = true := by kernel_rfl
def R1.u8 : R1 UInt8 where
 v c := .int .u8 c.toNat
 un := fun
  | .int .u8 n => if 0 ≤ n ∧ n < 256 then some (UInt8.ofNat n.toNat) else none
  | _ => none
 un_v c := by
  have := c.toNat_lt
  show (if (0 : Int) ≤ c.toNat ∧ (c.toNat : Int) < 256 then some (UInt8.ofNat (c.toNat : Int).toNat) else none) = _
  rw [if_pos (by omega), Int.toNat_natCast, UInt8.ofNat_toNat]
 un_some x a h := by
  split at h
  ·split at h
   ·rename_i n hn
    cases h
    rw [UInt8.toNat_ofNat_of_lt' (show n.toNat < 256 by omega), Int.toNat_of_nonneg hn.1]
   ·cases h
  ·cases h
def encB : Enc UInt8 where
 c b := [.int .u8 b.toNat]
 sz := 1
 pos := by omega
 len _ := rfl
 nd _ := rfl
 ip := true
 pl _ _ := rfl
 fz _ _ := rfl
 dec := fun
  | [x] => R1.u8.un x
  | _ => none
 dec_c b := R1.u8.un_v b
 dec_some cs a h := by
  split at h
  ·rw [R1.u8.un_some _ _ h]; rfl
  ·cases h
def encI : Enc Int where
 c b := [.int .i64 b]
 sz := 1
 pos := by omega
 len _ := rfl
 nd _ := rfl
 ip := true
 pl _ _ := rfl
 fz _ _ := rfl
 dec := fun
  | [.int .i64 n] => some n
  | _ => none
 dec_c b := rfl
 dec_some cs a h := by
  split at h
  ·cases h; rfl
  ·cases h
def encT : Enc Bool where
 c b := [.bool b]
 sz := 1
 pos := by omega
 len _ := rfl
 nd _ := rfl
 ip := true
 pl _ _ := rfl
 fz _ _ := rfl
 dec := fun
  | [.bool n] => some n
  | _ => none
 dec_c b := rfl
 dec_some cs a h := by
  split at h
  ·cases h; rfl
  ·cases h
def foldB (c : UInt8) : UInt8 := if 65 ≤ c.toNat ∧ c.toNat ≤ 90 then UInt8.ofNat (c.toNat + 32) else c
theorem foldB_up {c : UInt8} (h1 : 65 ≤ c.toNat) (h2 : c.toNat ≤ 90) : (foldB c).toNat = c.toNat + 32 := by
 unfold foldB
 rw [if_pos ⟨h1, h2⟩, UInt8.toNat_ofNat_of_lt' (show c.toNat + 32 < 256 by omega)]
theorem foldB_lo {c : UInt8} (h : c.toNat < 65 ∨ 90 < c.toNat) : foldB c = c := by
 unfold foldB
 rw [if_neg (by omega)]
theorem u8_eqI {a b : UInt8} : (a.toNat : Int) = b.toNat ↔ a = b := by
 rw [← UInt8.toNat_inj]
 omega
theorem pFold (c : UInt8) : PCF Tryz.prog 63 [.int .u8 c.toNat] (.int .u8 (foldB c).toNat) := by
 have hlt := c.toNat_lt
 refine pcf_e hmG (TabOk.none _) comp63 (by decide) (by simp) (nidL_ok rfl) ?_
 by_cases h1 : 65 ≤ c.toNat
 ·by_cases h2 : c.toNat ≤ 90
  ·refine vcE.ex (by simp (disch := omega) only [go_sem, ↓reduceIte, reduceCtorEq, Nat.reduceEqDiff, wrap_u8]; rfl) ?_
   refine ⟨_, rfl, ?_⟩
   rw [foldB_up h1 h2]
   rfl
  ·refine vcE.ex (by simp (disch := omega) only [go_sem, ↓reduceIte, reduceCtorEq, Nat.reduceEqDiff]; rfl) ?_
   refine ⟨_, rfl, ?_⟩
   rw [foldB_lo (by omega)]
   rfl
 ·refine vcE.ex (by simp (disch := omega) only [go_sem, ↓reduceIte, reduceCtorEq, Nat.reduceEqDiff]; rfl) ?_
  refine ⟨_, rfl, ?_⟩
  rw [foldB_lo (by omega)]
  rfl
def sameB (f : Bool) (c b : UInt8) : Bool := if f then decide (foldB c = foldB b) else decide (c = b)
def G0 : Tab := Tab.none.addR 63 (.cons .u8 .nil) fun p => .rd true (.int .u8 (foldB p.1).toNat)
theorem G0_ok : TabOk Tryz.prog G0 := (TabOk.none _).addR fun p => pFold p.1
theorem G0_fold (c : UInt8) : G0 63 [.int .u8 c.toNat] = some (.rd true (.int .u8 (foldB c).toNat)) := Tab.addR_self _ _ (.cons .u8 .nil) _ (c, ())
def checkG (p : List UInt8) : Int := if p = [] then 2 else if p.length > 255 then 4 else 0
theorem pCheck (p : List UInt8) : PCF Tryz.prog 42 [.str p] (.int .i64 (checkG p)) := by
 refine pcf_e hmG (TabOk.none _) comp42 (by decide) (by simp) (nidL_ok rfl) ?_
 unfold checkG
 repeat' (first | refine vcE.seq ?_ | refine vcE.block ?_ | (refine vcE.condTrue ?_ ?_; first | rfl | (simp (disch := first | assumption | omega) only [go_sem, Nat.reduceEqDiff, ↓reduceIte, reduceCtorEq, Nat.reduceAdd, Nat.reduceLeDiff] <;> rfl)) | (refine vcE.condFalse ?_ ?_; first | rfl | (simp (disch := first | assumption | omega) only [go_sem, Nat.reduceEqDiff, ↓reduceIte, reduceCtorEq, Nat.reduceAdd, Nat.reduceLeDiff] <;> rfl)) | (refine vcE.condND _ rfl (fun hc => ?_) (fun hc => ?_) <;> try (exfalso; first | omega | contradiction)) | (refine vcE.condD _ rfl (fun hc => ?_) (fun hc => ?_) <;> try (exfalso; first | omega | contradiction)) | (refine vcE.condNB _ rfl (fun hc => ?_) (fun hc => ?_) <;> try (exfalso; first | omega | contradiction)) | (refine vcE.condB _ rfl (fun hc => ?_) (fun hc => ?_) <;> try (exfalso; first | omega | contradiction)) | (apply vcE.ex; (simp (disch := first | assumption | omega) only [go_sem, ↓reduceIte, reduceCtorEq] <;> rfl)) | fail)
 all_goals refine ⟨_, rfl, ?_⟩
 all_goals simp (disch := omega) only [if_pos, if_neg, *]
 all_goals rfl
end
section
open Go Go.Proofs
theorem encB_cs (s : List UInt8) : encB.cs s = s.map byteA := encB.cs_map1 (fun _ => rfl) s
theorem encT_zeros (n : Nat) : zerosA [.bool false] n = encT.cs (List.replicate n false) := by
 rw [encT.cs_map1 (f := .bool) (fun _ => rfl)]
 simp [zerosA]
theorem unbyte_encB : ∀ s : List UInt8, unbyte (encB.cs s) = some s
 | [] => rfl
 | c :: s => by
  have h := c.toNat_lt
  show (if (0 : Int) ≤ c.toNat ∧ (c.toNat : Int) < 256 then (unbyte (encB.cs s)).map (UInt8.ofNat (c.toNat : Int).toNat :: ·) else none) = _
  rw [if_pos (by omega), unbyte_encB s, Int.toNat_natCast, UInt8.ofNat_toNat]
  rfl
theorem s2b_encB (hp : HP) (e : TypeId) (s : List UInt8) : s2bA hp e (.str s) = some (.sl hp.length 0 s.length 1 s.length false, hp ++ [some (.row e (encB.cs s))]) := by
 rw [encB_cs]
 rfl
def doneTo {α : Type} (f : α → α) (s : List α) (i : Nat) : List α := (s.take i).map f ++ s.drop i
theorem doneTo_len {α : Type} (f : α → α) (s : List α) (i : Nat) : (doneTo f s i).length = s.length := by
 simp only [doneTo, List.length_append, List.length_map, List.length_take, List.length_drop]
 omega
theorem doneTo_get {α : Type} {f : α → α} {s : List α} {i : Nat} {c : α} (h : s[i]? = some c) : (doneTo f s i)[i]? = some c := by
 have hlt := (List.getElem?_eq_some_iff.1 h).1
 unfold doneTo
 rw [List.getElem?_append_right (by simp; omega)]
 simp only [List.length_map, List.length_take, List.getElem?_drop]
 rw [Nat.min_eq_left (by omega), Nat.sub_self, Nat.add_zero, h]
theorem doneTo_set {α : Type} {f : α → α} {s : List α} {i : Nat} {c : α} (h : s[i]? = some c) : (doneTo f s i).set i (f c) = doneTo f s (i + 1) := by
 obtain ⟨hlt, he⟩ := List.getElem?_eq_some_iff.1 h
 unfold doneTo
 rw [List.set_append_right _ _ (by simp; omega)]
 simp only [List.length_map, List.length_take]
 rw [Nat.min_eq_left (by omega), Nat.sub_self, List.drop_eq_getElem_cons hlt, he, List.set_cons_zero, List.take_add_one, h]
 simp
theorem doneTo_zero {α : Type} (f : α → α) (s : List α) : doneTo f s 0 = s := by simp [doneTo]
theorem doneTo_all {α : Type} (f : α → α) (s : List α) : doneTo f s s.length = s.map f := by simp [doneTo]
theorem pFoldS (s : List UInt8) (hl : s.length ≤ 4611686018427387904) : PCF Tryz.prog 46 [.str s] (.str (s.map foldB)) := by
 refine pcf_e hmG G0_ok comp46 (by decide) (by simp) (nidL_ok rfl) ?_
 refine vcE.step (by simp only [go_sem, ↓reduceIte]; rfl) (vcE.step (by simp only [go_sem, ↓reduceIte, reduceCtorEq, s2b_encB]; rfl) (vcE.then (fun e tm hp => e = .normal ∧ tm 3 = .sl 0 0 s.length 1 s.length false ∧ hp = [some (.row 5 (encB.cs (s.map foldB)))]) ?_ ?_))
 ·refine vcE.step (by simp only [go_sem, ↓reduceIte]; rfl) (vcE.block (vcE.count (by intro l tm hp h; simp at h)
   (fun i tm hp => tm 3 = .sl 0 0 s.length 1 s.length false ∧ tm 8 = .int .i64 s.length ∧ tm 9 = .int .i64 i ∧ hp = [some (.row 5 (encB.cs (doneTo foldB s i)))]) s.length ⟨?_, ?_, ?_, ?_⟩ ?_ ?_))
  ·rfl
  ·rfl
  ·rfl
  ·rw [doneTo_zero]
  ·rintro i tm hp hi ⟨e3, e8, e9, rfl⟩
   obtain ⟨c, hc⟩ : ∃ c, s[i]? = some c := ⟨_, List.getElem?_eq_getElem hi⟩
   have hlen := doneTo_len foldB s i
   have hld := encB.sl_load1 (hp := [some (.row 5 (encB.cs (doneTo foldB s i)))]) (id := 0) (e := 5) rfl rfl (doneTo_get (f := foldB) hc) (v := .int .u8 c.toNat) rfl rfl
   have hst := encB.sl_store1 (hp := [some (.row 5 (encB.cs (doneTo foldB s i)))]) (id := 0) (e := 5) (l := doneTo foldB s i) rfl rfl (i := i) (by omega) (b := foldB c) (v := .int .u8 (foldB c).toNat) rfl (by simp)
   rw [doneTo_set hc] at hst
   simp only [loadA, rowA, List.getElem?_cons_zero] at hld
   refine vcE.ex (by simp (disch := omega) only [go_sem, ↓reduceIte, e9, e8, Nat.reduceEqDiff, e3, iaddr_sl1, ↓hld, G0_fold, ↓hst]; rfl) ?_
   refine ⟨?_, ?_, ?_, rfl⟩
   all_goals simp only [upd_app, Nat.reduceEqDiff, ↓reduceIte, e3, e8]
   all_goals rfl
  ·rintro tm hp ⟨e3, e8, e9, rfl⟩
   refine vcE.ex (by simp (disch := omega) only [go_sem, ↓reduceIte, e9, e8]; rfl) ?_
   refine ⟨rfl, ?_, ?_⟩
   ·simp only [upd_app, Nat.reduceEqDiff, ↓reduceIte, e3]
   ·rw [doneTo_all]
 ·rintro e tm hp ⟨rfl, h3, rfl⟩
  have hs := encB.sl_src (hp := [some (.row 5 (encB.cs (s.map foldB)))]) (id := 0) (e := 5) (l := s.map foldB) (lo := s.length) (ex := false) rfl
  rw [List.length_map] at hs
  have hb : b2sA [some (.row 5 (encB.cs (s.map foldB)))] (.sl 0 0 s.length 1 s.length false) = some (.str (s.map foldB)) := by
   unfold b2sA
   rw [show (1 : Nat) = encB.sz from rfl, hs]
   simp only [unbyte_encB, Option.map_some]
  refine vcE.ex (by simp only [go_sem, ↓reduceIte, h3, hb]; rfl) ?_
  exact ⟨_, rfl, rfl⟩
end
end Go.Gi
