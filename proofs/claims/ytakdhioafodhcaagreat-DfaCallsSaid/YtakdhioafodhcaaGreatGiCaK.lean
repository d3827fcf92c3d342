/- The document's classes of bytes: outlawref09.classes: what it gives. -/
/- The document's classes of bytes: the other loops, and what outlawref09.classes gives. -/
/- The document's tables, built: what the memory holds meanwhile. -/
/- The document's tables, built: a row. -/
/- The document's tables, built: outlawref09.Build: what it gives. -/
/- A table in memory of its own: outlawlaw09.ownDfa: what it gives. -/
/- Tables: how long what is built may be. -/
/- Tables: the chapter's example, by contracts. -/
/- Lists of texts: outlawkit.LightTexts. -/
/- Tables, their validity, and the result of runs, are what the document says: the law. -/
import Derived.Test.YtakdhioafodhcaaGreatGiCaF
import Derived.Test.YtakdhioafodhcaaGreatGiDfJ
import Derived.Test.YtakdhioafodhcaaGreatGiDfM
import Derived.Test.YtakdhioafodhcaaGreatGiNfT
import Derived.Test.YtakdhioafodhcaaGreatGiON
import Derived.Test.YtakdhioafodhcaaGreatGiDfS
import Derived.Test.YtakdhioafodhcaaGreatGiDfC
import Derived.Test.YtakdhioafodhcaaGreatGiGlH
set_option linter.unusedVariables false
set_option linter.unusedSimpArgs false
set_option linter.unusedSectionVars false
set_option maxRecDepth 100000
namespace Go.Gi
section
open Go Go.Proofs
theorem b2s_new {hp : HP} {e : TypeId} {c : UInt8} {ex : Bool} : b2sA (hp ++ [some (.row e [.int .u8 c.toNat])]) (.sl hp.length 0 1 1 1 ex) = some (.str [c]) := by
 have h := src_one (hp := hp) (e := e) (c := c) (ex := ex)
 have hu := unbyte_encB [c]
 simp only [b2sA, h, hu, Option.map_some]
theorem ofN_cast {i : Nat} (h : i < 256) : IntKind.wrap .u8 (i : Int) = ((UInt8.ofNat i).toNat : Int) := by
 rw [wrap_u8 (by omega) (by omega), UInt8.toNat_ofNat']
 omega
section
variable {q : List UInt8} {f : Bool}
theorem keep_wild (a : UInt8) : keepB a = !decide (wildB a) := by
 unfold keepB wildB
 by_cases h1 : a = 42 <;> by_cases h2 : a = 63 <;> simp [h1, h2]
theorem cl_inner (hq : q.length ≤ 1000000) (c : UInt8) {hint : Nat → Nat} {n : Nat} {tm : Env} {hp : HP} (t0 : tm 0 = nP q f) (t7 : tm 7 = .str [c]) (t8 : tm 8 = .bool false) (t9 : tm 9 = .int .i64 0) :
  vcE Tryz.prog hint J0 n (IC.block 2 (IC.loop b26_0)) tm hp fun e tm' hp' => e = .normal ∧ hp' = hp ∧ tm' 0 = tm 0 ∧ tm' 4 = tm 4 ∧ tm' 5 = tm 5 ∧ tm' 6 = tm 6 ∧ tm' 8 = .bool (hit q f c q.length) := by
 have l0 : pickA none [AV.str q, .bool f] 0 = some (.str q) := rfl
 have l1 : pickA none [AV.str q, .bool f] 1 = some (.bool f) := rfl
 refine vcE.block (vcE.count (by intro l tm hp h; simp at h)
  (fun k tm' hp' => hp' = hp ∧ tm' 0 = tm 0 ∧ tm' 4 = tm 4 ∧ tm' 5 = tm 5 ∧ tm' 6 = tm 6 ∧ tm' 7 = .str [c] ∧ tm' 8 = .bool (hit q f c k) ∧ tm' 9 = .int .i64 k) q.length ⟨rfl, rfl, rfl, rfl, rfl, t7, t8, t9⟩ ?_ ?_)
 ·rintro k tm' hp' hk ⟨rfl, e0, e4, e5, e6, e7, e8, e9⟩
  rw [t0] at e0
  obtain ⟨a, ha⟩ : ∃ a, q[k]? = some a := ⟨_, List.getElem?_eq_getElem hk⟩
  have hw : IntKind.wrap .i64 ((k : Int) + 1) = ((k + 1 : Nat) : Int) := wrap_i64 (by omega) (by omega)
  have hsl : sliceA 0 (.str q) (some (.int .i64 k)) (some (.int .i64 ((k + 1 : Nat) : Int))) none = some (.str [a]) := by
   rw [sslice_str (by omega) (by omega), show k + 1 - k = 1 by omega]
   obtain ⟨hk', rfl⟩ := List.getElem?_eq_some_iff.1 ha
   rw [List.drop_eq_getElem_cons hk']
   rfl
  have hix : indexSA (.str q) (.int .i64 (k : Int)) = some (.int .u8 a.toNat) := idx_str ha
  have k1 : J0 56 [.str [a]] = some (.rd true (.str [foldB a])) := J0_fold [a] (by simp)
  have k2 := J0_wild a
  have hlt : (k : Int) < (q.length : Int) := by omega
  have hh := hit_step ha f c
  rw [keep_wild] at hh
  refine vcE.step (by simp (disch := first | assumption | omega) only [go_sem, ↓reduceIte, e9, reduceCtorEq, e0, nP, nilchkA, ↓l0, Nat.reduceEqDiff, hlt]; rfl) ?_
  refine vcE.then (fun e tm2 hp2 => e = .normal ∧ hp2 = hp' ∧ tm2 0 = nP q f ∧ tm2 4 = tm 4 ∧ tm2 5 = tm 5 ∧ tm2 6 = tm 6 ∧ tm2 7 = .str [c] ∧ tm2 8 = .bool (hit q f c (k + 1)) ∧ tm2 9 = .int .i64 k) ?_ ?_
  ·refine vcE.block (vcE.step (by simp (disch := first | assumption | omega) only [go_sem, ↓reduceIte, reduceCtorEq, e0, nP, nilchkA, ↓l0, Nat.reduceEqDiff, e9, hw, ↓hsl]; rfl) (vcE.then (fun e tm2 hp2 => e = .normal ∧ hp2 = hp' ∧ tm2 0 = nP q f ∧ tm2 4 = tm 4 ∧ tm2 5 = tm 5 ∧ tm2 6 = tm 6 ∧ tm2 7 = .str [c] ∧ tm2 8 = .bool (hit q f c k) ∧ tm2 9 = .int .i64 k ∧ tm2 10 = .str [ofB f a]) ?_ ?_))
   ·cases f with
    | false =>
     refine vcE.ex (by simp (disch := first | assumption | omega) only [go_sem, ↓reduceIte, reduceCtorEq, e0, nP, nilchkA, ↓l1]; rfl) ?_
     refine ⟨rfl, rfl, ?_, ?_, ?_, ?_, ?_, ?_, ?_, ?_⟩
     all_goals simp only [upd_app, Nat.reduceEqDiff, ↓reduceIte, e0, e4, e5, e6, e7, e8, e9]
     all_goals rfl
    | true =>
     refine vcE.ex (by simp (disch := first | assumption | omega) only [go_sem, ↓reduceIte, reduceCtorEq, e0, nP, nilchkA, ↓l1, Nat.reduceEqDiff, k1]; rfl) ?_
     refine ⟨rfl, rfl, ?_, ?_, ?_, ?_, ?_, ?_, ?_, ?_⟩
     all_goals simp only [upd_app, Nat.reduceEqDiff, ↓reduceIte, e0, e4, e5, e6, e7, e8, e9]
     all_goals rfl
   ·rintro e tm2 hp2 ⟨rfl, rfl, u0, u4, u5, u6, u7, u8, u9, u10⟩
    rw [hh]
    generalize hit q f c k = h0 at *
    have hst : ([ofB f a] = [c]) = (ofB f a = c) := by simp
    cases h0 with
    | true =>
     refine vcE.ex (by simp (disch := first | assumption | omega) only [go_sem, ↓reduceIte, u8, Nat.reduceEqDiff]; rfl) ?_
     refine ⟨rfl, rfl, ?_, ?_, ?_, ?_, ?_, ?_, ?_⟩
     all_goals simp only [upd_app, Nat.reduceEqDiff, ↓reduceIte, u0, u4, u5, u6, u7, u9, Bool.true_or]
     all_goals rfl
    | false =>
     by_cases hac : ofB f a = c
     ·have hac' : ([ofB f a] = [c]) := by rw [hac]
      refine vcE.ex (by simp (disch := first | assumption | omega) only [go_sem, ↓reduceIte, u8, Nat.reduceEqDiff, u10, hac', u7, reduceCtorEq, u0, nP, nilchkA, ↓l0, u9, ha, k2]; rfl) ?_
      refine ⟨rfl, rfl, ?_, ?_, ?_, ?_, ?_, ?_, ?_⟩
      all_goals simp only [upd_app, Nat.reduceEqDiff, ↓reduceIte, u0, u4, u5, u6, u7, u9, Bool.false_or, hac, decide_true, Bool.true_and]
      all_goals rfl
     ·have hac' : ¬ ([ofB f a] = [c]) := by rw [hst]; exact hac
      refine vcE.ex (by simp (disch := first | assumption | omega) only [go_sem, ↓reduceIte, u8, Nat.reduceEqDiff, u10, u7, hac', decide_false]; rfl) ?_
      refine ⟨rfl, rfl, ?_, ?_, ?_, ?_, ?_, ?_, ?_⟩
      all_goals simp only [upd_app, Nat.reduceEqDiff, ↓reduceIte, u0, u4, u5, u6, u7, u9, Bool.false_or, hac, decide_false, Bool.false_and]
      all_goals rfl
  ·rintro e tm2 hp2 ⟨rfl, rfl, u0, u4, u5, u6, u7, u8, u9⟩
   refine vcE.ex (by simp (disch := first | assumption | omega) only [go_sem, ↓reduceIte, u9, hw]; rfl) ?_
   refine ⟨rfl, ?_, ?_, ?_, ?_, ?_, ?_, ?_⟩
   all_goals simp only [upd_app, Nat.reduceEqDiff, ↓reduceIte, u0, u4, u5, u6, u7, u8, t0]
 ·rintro tm' hp' ⟨rfl, e0, e4, e5, e6, e7, e8, e9⟩
  rw [t0] at e0
  refine vcE.ex (by simp (disch := first | assumption | omega) only [go_sem, ↓reduceIte, e9, reduceCtorEq, e0, nP, nilchkA, ↓l0, Nat.reduceEqDiff]; rfl) ?_
  refine ⟨rfl, rfl, ?_, ?_, ?_, ?_, ?_⟩
  all_goals simp only [upd_app, Nat.reduceEqDiff, ↓reduceIte, e0, e4, e5, e6, e8, t0]
def ClsAt (q : List UInt8) (f : Bool) (O : List Int) (S : List UInt8) (tm : Env) (hp : HP) : Prop :=
 tm 0 = nP q f ∧ tm 4 = .sl 0 0 256 1 256 true ∧ hp[0]? = some (some (.row 3 (encI.cs O))) ∧ ∃ sid, sid ≠ 0 ∧ tm 5 = bld sid S.length 1 ∧ BldAt encB hp sid 5 S
theorem cl_one (hq : q.length ≤ 1000000) {hint : Nat → Nat} {n : Nat} {tm : Env} {hp : HP} (h0 : ClsAt q f (outA (keysB q f) 0) (someA (keysB q f) 0) tm hp) (t6 : tm 6 = .int .i64 0) :
  vcE Tryz.prog hint J0 n (IC.block 0 (IC.loop b26_1)) tm hp fun e tm' hp' => e = .normal ∧ ClsAt q f (outA (keysB q f) 256) (someA (keysB q f) 256) tm' hp' := by
 have hr := keysB_rise q f
 have l1 : pickA none [AV.str q, .bool f] 1 = some (.bool f) := rfl
 refine vcE.block (vcE.count (by intro l tm hp h; simp at h)
  (fun i tm' hp' => ClsAt q f (outA (keysB q f) i) (someA (keysB q f) i) tm' hp' ∧ tm' 6 = .int .i64 i) 256 ⟨h0, t6⟩ ?_ ?_)
 ·clear h0 t6
  rintro i tm hp hi ⟨⟨t0, t4, h1, sid, hs0, t5, hb⟩, t6⟩
  have hw : IntKind.wrap .i64 ((i : Int) + 1) = ((i + 1 : Nat) : Int) := wrap_i64 (by omega) (by omega)
  have hlt : (i : Int) < 256 := by omega
  have hu := ofN_cast hi
  have hcn : (UInt8.ofNat i).toNat = i := by rw [UInt8.toNat_ofNat']; omega
  generalize hc : UInt8.ofNat i = c at hu hcn
  have hpos : 0 < hp.length := get_lt h1
  refine vcE.step (by simp (disch := first | assumption | omega) only [go_sem, ↓reduceIte, t6, hlt]; rfl) ?_
  refine vcE.then (fun e tm2 hp2 => e = .normal ∧ ClsAt q f (outA (keysB q f) (i + 1)) (someA (keysB q f) (i + 1)) tm2 hp2 ∧ tm2 6 = .int .i64 i) ?_ ?_
  rotate_left
  ·rintro e tm2 hp2 ⟨rfl, ⟨u0, u4, g1, sid2, gs0, u5, gb⟩, u6⟩
   refine vcE.ex (by simp (disch := first | assumption | omega) only [go_sem, ↓reduceIte, u6, hw]; rfl) ?_
   refine ⟨⟨?_, ?_, g1, sid2, gs0, ?_, gb⟩, ?_⟩
   all_goals simp only [upd_app, Nat.reduceEqDiff, ↓reduceIte, u0, u4, u5]
  have hb2 := b2s_new (hp := hp) (e := 5) (c := c) (ex := true)
  refine vcE.block (vcE.step (by simp (disch := first | assumption | omega) only [go_sem, ↓reduceIte, Nat.reduceEqDiff, t6, hu, ↓hb2]; rfl) ?_)
  have g1 : (hp ++ [some (Blk.row 5 [.int .u8 c.toNat])])[0]? = some (some (.row 3 (encI.cs (outA (keysB q f) i)))) := app_get h1
  have gb := hb.app [some (Blk.row 5 [.int .u8 c.toNat])]
  have glen : (hp ++ [some (Blk.row 5 [.int .u8 c.toNat])]).length = hp.length + 1 := by simp
  generalize hp ++ [some (Blk.row 5 [.int .u8 c.toNat])] = hp1 at g1 gb glen
  have k1 : J0 56 [.str [c]] = some (.rd true (.str [foldB c])) := J0_fold [c] (by simp)
  by_cases hfc : ofB f c = c
  rotate_left
  ·have hno : isB (keysB q f) (UInt8.ofNat i) = false := by
    rw [hc]
    cases h : isB (keysB q f) c with
    | false => rfl
    | true => exact absurd (key_fold h) hfc
   cases f with
   | false => exact absurd rfl hfc
   | true =>
    have hne : ¬ ([foldB c] = [c]) := by
     intro e
     exact hfc (by simpa [ofB] using e)
    refine vcE.ex (by simp (disch := first | assumption | omega) only [go_sem, ↓reduceIte, reduceCtorEq, t0, nP, nilchkA, ↓l1, Nat.reduceEqDiff, k1, hne, decide_false]; rfl) ?_
    simp only [if_true]
    refine ⟨trivial, ⟨?_, ?_, ?_, sid, hs0, ?_, ?_⟩, ?_⟩
    ·simp only [upd_app, Nat.reduceEqDiff, ↓reduceIte, t0]
    ·simp only [upd_app, Nat.reduceEqDiff, ↓reduceIte, t4]
    ·rw [← outA_same hno]
     exact g1
    ·rw [← someA_same hr hi hno]
     simp only [upd_app, Nat.reduceEqDiff, ↓reduceIte, t5]
    ·rw [← someA_same hr hi hno]
     exact gb
    ·simp only [upd_app, Nat.reduceEqDiff, ↓reduceIte, t6]
  refine vcE.then (fun e tm2 hp2 => e = .normal ∧ hp1 = hp2 ∧ tm2 0 = nP q f ∧ tm2 4 = tm 4 ∧ tm2 5 = tm 5 ∧ tm2 6 = tm 6 ∧ tm2 7 = .str [c]) ?_ ?_
  ·cases f with
   | false =>
    refine vcE.ex (by simp (disch := first | assumption | omega) only [go_sem, ↓reduceIte, reduceCtorEq, t0, nP, nilchkA, ↓l1, Nat.reduceEqDiff]; rfl) ?_
    refine ⟨rfl, rfl, ?_, ?_, ?_, ?_, ?_⟩
    all_goals simp only [upd_app, Nat.reduceEqDiff, ↓reduceIte, t0, nP]
   | true =>
    have heq : ([foldB c] = [c]) := by
     have : foldB c = c := hfc
     rw [this]
    refine vcE.ex (by simp (disch := first | assumption | omega) only [go_sem, ↓reduceIte, reduceCtorEq, t0, nP, nilchkA, ↓l1, Nat.reduceEqDiff, k1, heq]; rfl) ?_
    refine ⟨rfl, rfl, ?_, ?_, ?_, ?_, ?_⟩
    all_goals simp only [upd_app, Nat.reduceEqDiff, ↓reduceIte, t0, nP]
  rintro e tm2 hp2 ⟨rfl, rfl, u0, u4, u5, u6, u7⟩
  rw [t4] at u4
  rw [t5] at u5
  rw [t6] at u6
  clear t0 t4 t5 t6
  refine vcE.step (by simp (disch := first | assumption | omega) only [go_sem, ↓reduceIte]; rfl) ?_
  refine vcE.then (fun e tm3 hp3 => e = .normal ∧ hp1 = hp3 ∧ tm3 0 = nP q f ∧ tm3 4 = .sl 0 0 256 1 256 true ∧ tm3 5 = bld sid (someA (keysB q f) i).length 1 ∧ tm3 6 = .int .i64 i ∧ tm3 8 = .bool (isB (keysB q f) c)) ?_ ?_
  ·refine vcE.step (by simp (disch := first | assumption | omega) only [go_sem, ↓reduceIte]; rfl) (vcE.mono (cl_inner (f := f) hq c ?_ ?_ ?_ ?_) ?_)
   ·simp only [upd_app, Nat.reduceEqDiff, ↓reduceIte, u0]
   ·simp only [upd_app, Nat.reduceEqDiff, ↓reduceIte, u7]
   ·simp only [upd_app, Nat.reduceEqDiff, ↓reduceIte]
   ·simp only [upd_app, Nat.reduceEqDiff, ↓reduceIte]
   rintro e tm3 hp3 ⟨rfl, rfl, v0, v4, v5, v6, v8⟩
   rw [hit_all] at v8
   refine ⟨rfl, rfl, ?_, ?_, ?_, ?_, v8⟩
   ·rw [v0]
    simp only [upd_app, Nat.reduceEqDiff, ↓reduceIte, u0]
   ·rw [v4]
    simp only [upd_app, Nat.reduceEqDiff, ↓reduceIte, u4]
   ·rw [v5]
    simp only [upd_app, Nat.reduceEqDiff, ↓reduceIte, u5]
   ·rw [v6]
    simp only [upd_app, Nat.reduceEqDiff, ↓reduceIte, u6]
  rintro e tm3 hp3 ⟨rfl, rfl, v0, v4, v5, v6, v8⟩
  cases hin : isB (keysB q f) c with
  | false =>
   rw [hin] at v8
   have hno : isB (keysB q f) (UInt8.ofNat i) = false := by rw [hc]; exact hin
   refine vcE.ex (by simp (disch := first | assumption | omega) only [go_sem, ↓reduceIte, v8]; rfl) ?_
   refine ⟨rfl, ⟨?_, ?_, ?_, sid, hs0, ?_, ?_⟩, ?_⟩
   ·simp only [upd_app, Nat.reduceEqDiff, ↓reduceIte, v0]
   ·simp only [upd_app, Nat.reduceEqDiff, ↓reduceIte, v4]
   ·rw [← outA_same hno]
    exact g1
   ·rw [← someA_same hr hi hno]
    simp only [upd_app, Nat.reduceEqDiff, ↓reduceIte, v5]
   ·rw [← someA_same hr hi hno]
    exact gb
   ·simp only [upd_app, Nat.reduceEqDiff, ↓reduceIte, v6]
  | true =>
   rw [hin] at v8
   have hyes : isB (keysB q f) (UInt8.ofNat i) = true := by rw [hc]; exact hin
   have hadd := someA_add hr hi hyes
   rw [hc] at hadd
   have hlen := someA_len (ks := keysB q f) hi
   have hsz : (someA (keysB q f) i).length ≤ q.length := Nat.le_trans (List.length_filter_le _ _) (keysB_len q f)
   have hval : (valA (keysB q f) (UInt8.ofNat i) : Int) = ((someA (keysB q f) (i + 1)).length : Int) := by
    rw [valA, hyes, hadd, List.length_append, hlen]
    rfl
   have happ := (gb.app [some (Blk.row 5 [.int .u8 c.toNat])]).more (bytes := 1) (m := [c]) (src_one (hp := hp1) (e := 5) (c := c) (ex := true)) (by simp) (by simp; omega) (by simp; omega)
   have hat := BldAt.moreAt encB (hp1 ++ [some (Blk.row 5 [.int .u8 c.toNat])]) sid (someA (keysB q f) i).length 5 (someA (keysB q f) i ++ [c])
   have hrow := bldH_other (id := sid) (len := (someA (keysB q f) i).length) (b := .row 5 (encB.cs (someA (keysB q f) i ++ [c]))) (app_get (new := [some (Blk.row 5 [.int .u8 c.toNat])]) g1) (.inr (Ne.symm hs0))
   rw [← hadd] at happ hat hrow
   generalize bldH (hp1 ++ [some (Blk.row 5 [.int .u8 c.toNat])]) sid (someA (keysB q f) i).length (.row 5 (encB.cs (someA (keysB q f) (i + 1)))) = hp4 at happ hat hrow
   have happ' : appA 5 1 1 (hp1 ++ [some (Blk.row 5 [.int .u8 c.toNat])]) (bld sid (someA (keysB q f) i).length 1) (.sl hp1.length 0 1 1 1 true) = some (bld (hp1 ++ [some (Blk.row 5 [.int .u8 c.toNat])]).length (someA (keysB q f) (i + 1)).length 1, hp4) := happ
   have hla := fun hp : HP => bld_len hp (hp1 ++ [some (Blk.row 5 [.int .u8 c.toNat])]).length (someA (keysB q f) (i + 1)).length 1
   have hfa := bld_fits (hp1 ++ [some (Blk.row 5 [.int .u8 c.toNat])]).length (someA (keysB q f) (i + 1)).length 1
   have hne : (hp1 ++ [some (Blk.row 5 [.int .u8 c.toNat])]).length ≠ 0 := by simp
   have hnt := bld_notTup (hp1 ++ [some (Blk.row 5 [.int .u8 c.toNat])]).length (someA (keysB q f) (i + 1)).length 1
   generalize (hp1 ++ [some (Blk.row 5 [.int .u8 c.toNat])]).length = sid2 at *
   have hia : iaddrA 1 (.sl 0 0 256 1 256 true) (.int .i64 (i : Int)) = some (.ptr 0 i) := iaddr_sl1 (by omega)
   have hst := encI.sl_store1 (hp := hp4) (id := 0) (e := 3) rfl hrow (i := i) (by rw [outA_len]; omega) (b := ((someA (keysB q f) (i + 1)).length : Int)) (v := .int .i64 ((someA (keysB q f) (i + 1)).length : Int)) rfl (by intro vs h; cases h)
   rw [← hval, outA_set, hval] at hst
   refine vcE.ex (by simp (disch := first | assumption | omega) only [go_sem, ↓reduceIte, v8, Nat.reduceEqDiff, v5, v6, hu, ↓happ', v4, hfa, ↓hla, hia, ↓hst]; rfl) ?_
   refine ⟨rfl, ⟨?_, ?_, set_get hrow, sid2, hne, ?_, ?_⟩, ?_⟩
   ·simp only [upd_app, Nat.reduceEqDiff, ↓reduceIte, v0]
   ·simp only [upd_app, Nat.reduceEqDiff, ↓reduceIte, v4]
   ·simp only [upd_app, Nat.reduceEqDiff, ↓reduceIte]
   ·refine hat.imp id fun h => ?_
    rw [set_get_ne (Ne.symm hne)]
    exact h
   ·simp only [upd_app, Nat.reduceEqDiff, ↓reduceIte, v6]
 ·rintro tm hp ⟨h, t6⟩
  refine vcE.ex (by simp (disch := first | assumption | omega) only [go_sem, ↓reduceIte, t6]; rfl) ?_
  obtain ⟨u0, u4, g1, sid2, gs0, u5, gb⟩ := h
  refine ⟨rfl, ?_, ?_, g1, sid2, gs0, ?_, gb⟩
  all_goals simp only [upd_app, Nat.reduceEqDiff, ↓reduceIte, u0, u4, u5]
end
end
section
open Go Go.Proofs
section
variable {q : List UInt8} {f : Bool}
theorem cl_two {hint : Nat → Nat} {n : Nat} {tm : Env} {hp : HP} (h0 : ClsAt q f (outF (keysB q f) f 0) (keysB q f) tm hp) (t11 : tm 11 = .int .i64 0) :
  vcE Tryz.prog hint J0 n (IC.block 4 (IC.loop b26_2)) tm hp fun e tm' hp' => e = .normal ∧ ClsAt q f (clsL q f) (keysB q f) tm' hp' := by
 have l1 : pickA none [AV.str q, .bool f] 1 = some (.bool f) := rfl
 refine vcE.block (vcE.count (by intro l tm hp h; simp at h)
  (fun i tm' hp' => ClsAt q f (outF (keysB q f) f i) (keysB q f) tm' hp' ∧ tm' 11 = .int .i64 i) 256 ⟨h0, t11⟩ ?_ ?_)
 ·clear h0 t11
  rintro i tm hp hi ⟨⟨t0, t4, h1, sid, hs0, t5, hb⟩, t11⟩
  have hw : IntKind.wrap .i64 ((i : Int) + 1) = ((i + 1 : Nat) : Int) := wrap_i64 (by omega) (by omega)
  have hlt : (i : Int) < 256 := by omega
  have hu := ofN_cast hi
  have hcn : (UInt8.ofNat i).toNat = i := by rw [UInt8.toNat_ofNat']; omega
  generalize hc : UInt8.ofNat i = c at hu hcn
  have hb2 := b2s_new (hp := hp) (e := 5) (c := c) (ex := true)
  have g1 : (hp ++ [some (Blk.row 5 [.int .u8 c.toNat])])[0]? = some (some (.row 3 (encI.cs (outF (keysB q f) f i)))) := app_get h1
  have gb := hb.app [some (Blk.row 5 [.int .u8 c.toNat])]
  have k1 : J0 56 [.str [c]] = some (.rd true (.str [foldB c])) := J0_fold [c] (by simp)
  cases f with
  | false =>
   rw [outF_no] at g1
   refine vcE.ex (by simp (disch := first | assumption | omega) only [go_sem, ↓reduceIte, t11, hlt, Nat.reduceEqDiff, hu, ↓hb2, k1, reduceCtorEq, t0, nP, nilchkA, ↓l1, hw]; rfl) ?_
   refine ⟨⟨?_, ?_, g1, sid, hs0, ?_, gb⟩, ?_⟩
   all_goals simp only [upd_app, Nat.reduceEqDiff, ↓reduceIte, t0, t4, t5, nP]
  | true =>
   have hix : indexSA (.str [foldB c]) (.int .i64 0) = some (.int .u8 (foldB c).toNat) := idx_str (i := 0) rfl
   have hge := foldB_ge c
   have hfl := (foldB c).toNat_lt
   have hga := outF_get (keysB q true) (n := i) (c := foldB c) (by omega)
   have hset := outF_set (keysB q true) i
   rw [hc] at hset
   have i1 : iaddrA 1 (.sl 0 0 256 1 256 true) (.int .u8 ((foldB c).toNat : Int)) = some (.ptr 0 (foldB c).toNat) := iaddr_sl1 (by omega)
   have i2 : iaddrA 1 (.sl 0 0 256 1 256 true) (.int .i64 (i : Int)) = some (.ptr 0 i) := iaddr_sl1 (by omega)
   have hld := encI.sl_load1 (hp := (hp ++ [some (Blk.row 5 [.int .u8 c.toNat])])) (id := 0) (e := 3) rfl g1 hga (v := .int .i64 (valA (keysB q true) (foldB c) : Nat)) rfl rfl
   have hst := encI.sl_store1 (hp := (hp ++ [some (Blk.row 5 [.int .u8 c.toNat])])) (id := 0) (e := 3) rfl g1 (i := i) (by rw [outF_len]; omega) (b := ((valA (keysB q true) (foldB c) : Nat) : Int)) (v := .int .i64 (valA (keysB q true) (foldB c) : Nat)) rfl (by intro vs h; cases h)
   rw [hset] at hst
   refine vcE.ex (by simp (disch := first | assumption | omega) only [go_sem, ↓reduceIte, t11, hlt, Nat.reduceEqDiff, hu, ↓hb2, k1, reduceCtorEq, t0, nP, nilchkA, ↓l1, t4, ↓hix, i1, ↓hld, i2, ↓hst, hw]; rfl) ?_
   refine ⟨⟨?_, ?_, set_get g1, sid, hs0, ?_, ?_⟩, ?_⟩
   ·simp only [upd_app, Nat.reduceEqDiff, ↓reduceIte, t0, nP]
   ·simp only [upd_app, Nat.reduceEqDiff, ↓reduceIte, t4]
   ·simp only [upd_app, Nat.reduceEqDiff, ↓reduceIte, t5]
   ·refine gb.imp id fun h => ?_
    rw [set_get_ne (Ne.symm hs0)]
    exact h
   ·simp only [upd_app, Nat.reduceEqDiff, ↓reduceIte]
 ·rintro tm hp ⟨h, t11⟩
  refine vcE.ex (by simp (disch := first | assumption | omega) only [go_sem, ↓reduceIte, t11]; rfl) ?_
  obtain ⟨u0, u4, g1, sid2, gs0, u5, gb⟩ := h
  rw [outF_all] at g1
  refine ⟨rfl, ?_, ?_, g1, sid2, gs0, ?_, gb⟩
  all_goals simp only [upd_app, Nat.reduceEqDiff, ↓reduceIte, u0, u4, u5]
theorem clsL_get (q : List UInt8) (f : Bool) {n : Nat} (h : n < 256) : (clsL q f)[n]? = some ((clsOf (keysB q f) f (UInt8.ofNat n) : Nat) : Int) := by
 rw [clsL, clsTo, List.getElem?_map, List.getElem?_range h]
 simp only [Option.map_some]
 rw [if_pos h]
theorem cl_three {hint : Nat → Nat} {n : Nat} {tm : Env} {hp : HP} (h0 : ClsAt q f (clsL q f) (keysB q f) tm hp) (t13 : tm 13 = .int .u8 0) (t14 : tm 14 = .int .i64 255) :
  vcE Tryz.prog hint J0 n (IC.block 6 (IC.loop b26_3)) tm hp fun e tm' hp' => e = .normal ∧ ClsAt q f (clsL q f) (keysB q f) tm' hp' ∧ tm' 13 = .int .u8 (zz q f 256).toNat := by
 refine vcE.block (vcE.count (by intro l tm hp h; simp at h)
  (fun j tm' hp' => ClsAt q f (clsL q f) (keysB q f) tm' hp' ∧ tm' 13 = .int .u8 (zz q f j).toNat ∧ tm' 14 = .int .i64 (255 - (j : Int))) 256 ⟨h0, t13, t14⟩ ?_ ?_)
 ·clear h0 t13 t14
  rintro j tm hp hj ⟨⟨t0, t4, h1, sid, hs0, t5, hb⟩, t13, t14⟩
  obtain ⟨m, hm⟩ : ∃ m : Nat, (255 : Int) - (j : Int) = (m : Int) := ⟨255 - j, by omega⟩
  have hm2 : 255 - j = m := by omega
  have hw : IntKind.wrap .i64 ((m : Int) - 1) = 255 - ((j + 1 : Nat) : Int) := by
   rw [wrap_i64 (by omega) (by omega)]
   omega
  rw [hm] at t14
  have hge : (m : Int) ≥ 0 := by omega
  have i2 : iaddrA 1 (.sl 0 0 256 1 256 true) (.int .i64 (m : Int)) = some (.ptr 0 m) := iaddr_sl1 (by omega)
  have hld := encI.sl_load1 (hp := hp) (id := 0) (e := 3) rfl h1 (clsL_get q f (n := m) (by omega)) (v := .int .i64 (clsOf (keysB q f) f (UInt8.ofNat m) : Nat)) rfl rfl
  have hu := ofN_cast (i := m) (by omega)
  by_cases hz : clsOf (keysB q f) f (UInt8.ofNat m) = 0
  ·have hzz : zz q f (j + 1) = UInt8.ofNat m := by rw [zz, hm2, if_pos hz]
   have hz' : ((clsOf (keysB q f) f (UInt8.ofNat m) : Nat) : Int) = 0 := by omega
   refine vcE.ex (by simp (disch := first | assumption | omega) only [go_sem, ↓reduceIte, t14, hge, Nat.reduceEqDiff, t4, i2, ↓hld, hz', hu, hw]; rfl) ?_
   refine ⟨⟨?_, ?_, h1, sid, hs0, ?_, hb⟩, ?_, ?_⟩
   all_goals simp only [upd_app, Nat.reduceEqDiff, ↓reduceIte, t0, t4, t5, hzz]
  ·have hzz : zz q f (j + 1) = zz q f j := by rw [zz, hm2, if_neg hz]
   have hz' : ¬ ((clsOf (keysB q f) f (UInt8.ofNat m) : Nat) : Int) = 0 := by omega
   refine vcE.ex (by simp (disch := first | assumption | omega) only [go_sem, ↓reduceIte, t14, hge, Nat.reduceEqDiff, t4, i2, ↓hld, hz', decide_false, hw]; rfl) ?_
   refine ⟨⟨?_, ?_, h1, sid, hs0, ?_, hb⟩, ?_, ?_⟩
   all_goals simp only [upd_app, Nat.reduceEqDiff, ↓reduceIte, t0, t4, t5, t13, hzz]
 ·rintro tm hp ⟨⟨u0, u4, g1, sid2, gs0, u5, gb⟩, t13, t14⟩
  have hlt : ¬ (255 : Int) - ((256 : Nat) : Int) ≥ 0 := by omega
  refine vcE.ex (by simp (disch := first | assumption | omega) only [go_sem, ↓reduceIte, t14, hlt, decide_false]; rfl) ?_
  refine ⟨rfl, ⟨?_, ?_, g1, sid2, gs0, ?_, gb⟩, ?_⟩
  all_goals simp only [upd_app, Nat.reduceEqDiff, ↓reduceIte, u0, u4, u5, t13]
theorem encI_zeros (N : Nat) : encI.cs (List.replicate N 0) = List.replicate N (.int .i64 0) := by rw [encI_cs, List.map_replicate]
theorem rClasses (hq : q.length ≤ 1000000) : PCF Tryz.prog 26 [nP q f] (.tup [encI.S (clsL q f), encB.S (smD q f)]) := by
 refine pcf_e hmG J0_ok comp26 (by decide) (by simp) (nidL_ok (by simp only [nidL, nP_nid, Bool.and_self])) ?_
 have hmk : makeA [] 3 [.int .i64 0] 8 (.int .i64 256) (.int .i64 256) = some (.sl 0 0 256 1 256 true, [some (.row 3 (encI.cs (outA (keysB q f) 0)))]) := by
  rw [outA_zero, encI_zeros]
  rfl
 refine vcE.step (by simp (disch := first | assumption | omega) only [go_sem, ↓reduceIte]; rfl) (vcE.step (by simp (disch := first | assumption | omega) only [go_sem, ↓reduceIte, ↓hmk]; rfl) (vcE.step (by simp (disch := first | assumption | omega) only [go_sem, ↓reduceIte]; rfl) ?_))
 refine vcE.then (fun e tm hp => e = .normal ∧ ClsAt q f (outF (keysB q f) f 0) (keysB q f) tm hp) ?_ ?_
 ·refine vcE.step (by simp (disch := first | assumption | omega) only [go_sem, ↓reduceIte]; rfl) (vcE.mono (cl_one hq ⟨?_, ?_, rfl, 1, by decide, ?_, ?_⟩ ?_) ?_)
  ·rfl
  ·rfl
  ·rw [someA_zero]
   rfl
  ·rw [someA_zero]
   exact BldAt.nil _ _ _ _
  ·rfl
  rintro e tm hp ⟨rfl, h⟩
  rw [outF_zero, someA_all] at h
  exact ⟨rfl, h⟩
 rintro e tm hp ⟨rfl, h⟩
 refine vcE.then (fun e tm hp => e = .normal ∧ ClsAt q f (clsL q f) (keysB q f) tm hp) ?_ ?_
 ·obtain ⟨u0, u4, g1, sid2, gs0, u5, gb⟩ := h
  refine vcE.step (by simp (disch := first | assumption | omega) only [go_sem, ↓reduceIte]; rfl) (cl_two ⟨?_, ?_, g1, sid2, gs0, ?_, gb⟩ ?_)
  ·simp only [upd_app, Nat.reduceEqDiff, ↓reduceIte, u0]
  ·simp only [upd_app, Nat.reduceEqDiff, ↓reduceIte, u4]
  ·simp only [upd_app, Nat.reduceEqDiff, ↓reduceIte, u5]
  ·simp only [upd_app, Nat.reduceEqDiff, ↓reduceIte]
 clear h
 rintro e tm hp ⟨rfl, h⟩
 refine vcE.step (by simp (disch := first | assumption | omega) only [go_sem, ↓reduceIte]; rfl) ?_
 refine vcE.then (fun e tm hp => e = .normal ∧ ClsAt q f (clsL q f) (keysB q f) tm hp ∧ tm 13 = .int .u8 (zz q f 256).toNat) ?_ ?_
 ·obtain ⟨u0, u4, g1, sid2, gs0, u5, gb⟩ := h
  refine vcE.step (by simp (disch := first | assumption | omega) only [go_sem, ↓reduceIte]; rfl) (cl_three ⟨?_, ?_, g1, sid2, gs0, ?_, gb⟩ ?_ ?_)
  ·simp only [upd_app, Nat.reduceEqDiff, ↓reduceIte, u0]
  ·simp only [upd_app, Nat.reduceEqDiff, ↓reduceIte, u4]
  ·simp only [upd_app, Nat.reduceEqDiff, ↓reduceIte, u5]
  ·simp only [upd_app, Nat.reduceEqDiff, ↓reduceIte]
  ·simp only [upd_app, Nat.reduceEqDiff, ↓reduceIte]
 clear h
 rintro e tm hp ⟨rfl, ⟨u0, u4, g1, sid, gs0, u5, gb⟩, u13⟩
 have g2 : (hp ++ [some (Blk.row 5 [.int .u8 (zz q f 256).toNat])])[0]? = some (some (.row 3 (encI.cs (clsL q f)))) := app_get g1
 have gs : (hp ++ [some (Blk.row 5 [.int .u8 (zz q f 256).toNat])])[hp.length]? = some (some (.row 5 (encB.cs [zz q f 256]))) := by
  rw [List.getElem?_append_right (Nat.le_refl _), Nat.sub_self]
  rfl
 have gsr := (gb.app [some (Blk.row 5 [.int .u8 (zz q f 256).toNat])]).src
 have hpos : 0 < hp.length := get_lt g1
 have hlc : (clsL q f).length = 256 := clsTo_len _ _ _
 generalize hh : hp ++ [some (Blk.row 5 [.int .u8 (zz q f 256).toNat])] = hp1 at g2 gs gsr
 have hkl := keysB_len q f
 have key : ∃ (id lo : Nat) (ex : Bool) (hp2 : HP), appA 5 1 1 hp1 (.sl hp.length 0 1 1 1 true) (bld sid (keysB q f).length 1) = some (.sl id 0 (smD q f).length 1 lo ex, hp2) ∧ hp2[id]? = some (some (.row 5 (encB.cs (smD q f)))) ∧ hp2[0]? = some (some (.row 3 (encI.cs (clsL q f)))) := by
  by_cases hk : keysB q f = []
  ·refine ⟨hp.length, 1, true, hp1, ?_, ?_, g2⟩
   ·rw [hk] at gsr ⊢
    have gsr' : srcA hp1 1 (bld sid ([] : List UInt8).length 1) = some ([], 0) := gsr
    simp only [appA, gsr', smD, hk]
    rfl
   ·rw [smD, hk]
    exact gs
  ·obtain ⟨hp2, a1, a2, a3, _⟩ := app_own (E := encB) (bytes := 1) (ex := true) gs gsr (List.length_pos_iff.2 hk) (by simp; omega) (by simp; omega)
   exact ⟨_, _, _, hp2, a1, a2, by
    by_cases h0 : 0 < hp1.length
    ·rw [a3 0 (by omega) h0]
     exact g2
    ·exact absurd (get_lt g2) h0⟩
 obtain ⟨id, lo, ex, hp2, ka, kb, kc⟩ := key
 rw [← hh] at ka
 refine vcE.ex (by simp (disch := first | assumption | omega) only [go_sem, ↓reduceIte, u4, Nat.reduceEqDiff, u13, u5, ↓ka]; rfl) ?_
 refine ⟨_, rfl, ?_⟩
 have f1 := encI.sl_fresh (lo := 256) (ex := true) kc
 have f2 := encB.sl_fresh (lo := lo) (ex := ex) kb
 rw [hlc] at f1
 have f1' : fresh hp2 (.sl 0 0 256 1 256 true) = some (encI.S (clsL q f)) := f1
 have f2' : fresh hp2 (.sl id 0 (smD q f).length 1 lo ex) = some (encB.S (smD q f)) := f2
 simp only [upd_app, Nat.reduceEqDiff, ↓reduceIte, fresh_tup, freshL, f1', f2']
end
end
section
open Go Go.Proofs
structure Pc2 (hp : HP) (L : List (Nat × TypeId × List AV)) : Prop where
 at_ : ∀ q ∈ L, q.2.2 = [] ∨ (2 ≤ q.1 ∧ hp[q.1]? = some (some (.row q.2.1 q.2.2)))
 ne : L.Pairwise fun q r => q.2.2 = [] ∨ r.2.2 = [] ∨ q.1 ≠ r.1
theorem Pc2.perm {hp : HP} {L L' : List (Nat × TypeId × List AV)} (h : Pc2 hp L) (hl : L.Perm L') : Pc2 hp L' :=
 ⟨fun q hq => h.at_ q (hl.mem_iff.2 hq), (hl.pairwise_iff (fun {a b} h => h.elim (fun h => .inr (.inl h)) fun h => h.elim .inl fun h => .inr (.inr (Ne.symm h)))).1 h.ne⟩
theorem Pc2.step {hp hp' : HP} {q q' : Nat × TypeId × List AV} {L : List (Nat × TypeId × List AV)} (h : Pc2 hp (q :: L)) (hk : ∀ k, 2 ≤ k → k < hp.length → (q.2.2 = [] ∨ k ≠ q.1) → hp'[k]? = hp[k]?) (h2 : 2 ≤ hp.length) (hq : hp'[q'.1]? = some (some (.row q'.2.1 q'.2.2))) (hn : hp.length ≤ q'.1) : Pc2 hp' (q' :: L) := by
 have hne := List.pairwise_cons.1 h.ne
 have hlt : ∀ r ∈ L, r.2.2 = [] ∨ (2 ≤ r.1 ∧ r.1 < hp.length ∧ hp[r.1]? = some (some (.row r.2.1 r.2.2)) ∧ (q.2.2 = [] ∨ r.1 ≠ q.1)) := by
  intro r hr
  rcases h.at_ r (List.mem_cons_of_mem _ hr) with h1 | ⟨h1, h2⟩
  ·exact .inl h1
  rcases hne.1 r hr with h3 | h3 | h3
  ·exact .inr ⟨h1, (List.getElem?_eq_some_iff.1 h2).1, h2, .inl h3⟩
  ·exact .inl h3
  ·exact .inr ⟨h1, (List.getElem?_eq_some_iff.1 h2).1, h2, .inr (Ne.symm h3)⟩
 refine ⟨fun r hr => ?_, List.pairwise_cons.2 ⟨fun r hr => ?_, hne.2⟩⟩
 ·rcases List.mem_cons.1 hr with rfl | hr
  ·exact .inr ⟨by omega, hq⟩
  ·rcases hlt r hr with h1 | ⟨h1, h2, h3, h4⟩
   ·exact .inl h1
   ·exact .inr ⟨h1, by rw [hk r.1 h1 h2 h4]; exact h3⟩
 ·rcases hlt r hr with h1 | ⟨h1, h2, h3, h4⟩
  ·exact .inr (.inl h1)
  ·exact .inr (.inr (by omega))
theorem Pc2.keep {hp hp' : HP} {L : List (Nat × TypeId × List AV)} (h : Pc2 hp L) (hk : ∀ k, 2 ≤ k → k < hp.length → hp'[k]? = hp[k]?) : Pc2 hp' L :=
 ⟨fun q hq => (h.at_ q hq).imp (fun h => h) fun ⟨h1, h2⟩ => ⟨h1, by rw [hk q.1 h1 (List.getElem?_eq_some_iff.1 h2).1]; exact h2⟩, h.ne⟩
theorem Pc2.nil {hp : HP} {L : List (Nat × TypeId × List AV)} (h : Pc2 hp L) (i : Nat) (e : TypeId) : Pc2 hp ((i, e, []) :: L) :=
 ⟨fun q hq => by
  rcases List.mem_cons.1 hq with rfl | hq
  ·exact .inl rfl
  ·exact h.at_ q hq, List.pairwise_cons.2 ⟨fun _ _ => .inl rfl, h.ne⟩⟩
theorem Pc2.app {hp : HP} {id : Nat} {e : TypeId} {cs ms : List AV} {L : List (Nat × TypeId × List AV)} (h : Pc2 hp ((id, e, cs) :: L)) (h2 : 2 ≤ hp.length) {m : AV} {e2 : TypeId} {bytes : Nat} (hms : ms = [m]) (hb : (cs.length + 1) * bytes ≤ 140737488355328) (hn : cs.length + 1 ≤ 9223372036854775807) :
  ∃ hp', appA e 1 bytes (hp ++ [some (.row e2 ms)]) (bld id cs.length 1) (.sl hp.length 0 1 1 1 true) = some (bld (hp.length + 1) (cs.length + 1) 1, hp') ∧ Pc2 hp' ((hp.length + 1, e, cs ++ ms) :: L) ∧ (∀ k, k < 2 → hp'[k]? = hp[k]?) ∧ hp'.length = hp.length + 2 ∧ ∀ r ∈ L, r.2.2 ≠ [] → hp'[r.1]? = some (some (.row r.2.1 r.2.2)) := by
 subst hms
 have h1 := h.at_ _ (List.mem_cons_self ..)
 simp only at h1
 have hk1 : ∀ k, k < hp.length → (hp ++ [some (Blk.row e2 [m])])[k]? = hp[k]? := fun k hk => List.getElem?_append_left hk
 obtain ⟨hp', ha, hn', ho, hl'⟩ := app_raw (hp := hp ++ [some (Blk.row e2 [m])]) (id := id) (e := e) (cs := cs) (ms := [m]) (bytes := bytes) (x := .sl hp.length 0 1 1 1 true) (h1.imp (fun h => h) fun h => by rw [hk1 _ (List.getElem?_eq_some_iff.1 h.2).1]; exact h.2) src_cell (by simp) (by simpa using hb) (by simpa using hn)
 rw [List.length_append, List.length_singleton] at hn' hl' ho
 rw [List.length_append, List.length_singleton, List.length_append, List.length_singleton] at ha
 have hkp : ∀ k, k < hp.length → (cs = [] ∨ k ≠ id) → hp'[k]? = hp[k]? := fun k hk hne => by rw [ho k (by omega) hne, hk1 k hk]
 have low : ∀ k, k < 2 → hp'[k]? = hp[k]? := by
  intro k hk
  refine hkp k (by omega) ?_
  rcases h1 with h1 | h1
  ·exact .inl h1
  ·exact .inr (by omega)
 have p2 : Pc2 hp' ((hp.length + 1, e, cs ++ [m]) :: L) := h.step (fun k h6 hk hne => hkp k hk hne) h2 (by simp only; exact hn') (by simp only; omega)
 refine ⟨hp', ha, p2, low, by omega, fun r hr hne => ?_⟩
 rcases p2.at_ r (List.mem_cons_of_mem _ hr) with h | h
 ·exact absurd h hne
 ·exact h.2
structure Cs (hp : HP) (rid : Nat) (rows : List (List Int)) (nxid acid nid : Nat) (fin : List (Nat × List Int)) (accs : List Bool) (next cls : List Int) : Prop where
 r0 : hp[0]? = some (some (.row 26 [.nils, .nils, .nils]))
 r1 : hp[1]? = some (some (.row 26 [encI.S cls, bld nxid fin.length 1, bld acid accs.length 1]))
 pcs : Pc2 hp ((nid, 3, encI.cs next) :: (rid, 22, encR.cs rows) :: (nxid, 22, finC fin) :: (acid, 4, encT.cs accs) :: finP fin)
 len : 2 ≤ hp.length
section
variable {hp : HP} {rid nxid acid nid : Nat} {rows : List (List Int)} {fin : List (Nat × List Int)} {accs : List Bool} {next cls : List Int}
theorem Cs.rows_at (h : Cs hp rid rows nxid acid nid fin accs next cls) (hz : rows ≠ []) : 2 ≤ rid ∧ hp[rid]? = some (some (.row 22 (encR.cs rows))) := by
 refine (h.pcs.at_ _ (List.mem_cons_of_mem _ (List.mem_cons_self ..))).resolve_left ?_
 intro e
 exact hz (List.eq_nil_of_length_eq_zero (by rw [← encR_len]; simp only at e; rw [e]; rfl))
theorem Cs.app (h : Cs hp rid rows nxid acid nid fin accs next cls) (v : Int) (hl : next.length ≤ 1000000) : ∃ hp', appA 3 1 8 (hp ++ [some (.row 3 [.int .i64 v])]) (bld nid next.length 1) (.sl hp.length 0 1 1 1 true) = some (bld (hp.length + 1) (next ++ [v]).length 1, hp') ∧ Cs hp' rid rows nxid acid (hp.length + 1) fin accs (next ++ [v]) cls := by
 obtain ⟨r0, r1, pcs, len⟩ := h
 obtain ⟨hp', a1, a2, a3, a4, _⟩ := pcs.app (e2 := 3) (m := .int .i64 v) (ms := [.int .i64 v]) (bytes := 8) len rfl (by rw [encI_len]; omega) (by rw [encI_len]; omega)
 rw [encI_len] at a1
 refine ⟨hp', by rw [a1, List.length_append, List.length_singleton], by rw [a3 0 (by omega)]; exact r0, by rw [a3 1 (by omega)]; exact r1, ?_, by omega⟩
 rw [show encI.cs (next ++ [v]) = encI.cs next ++ [.int .i64 v] by rw [encI_cs, encI_cs, List.map_append]; rfl]
 exact a2
theorem Cs.row (h : Cs hp rid rows nxid acid nid fin accs next cls) (hz : rows ≠ []) (r : List Int) {ex : Bool} (hl : rows.length ≤ 1000000) : ∃ hp', appA 22 1 24 (hp ++ [some (.row 22 [encI.S r])]) (.sl rid 0 rows.length 1 rows.length ex) (.sl hp.length 0 1 1 1 true) = some (.sl (hp.length + 1) 0 (rows ++ [r]).length 1 (rows ++ [r]).length false, hp') ∧ Cs hp' (hp.length + 1) (rows ++ [r]) nxid acid nid fin accs next cls := by
 have hra := h.rows_at hz
 obtain ⟨r0, r1, pcs, len⟩ := h
 have hrl := (List.getElem?_eq_some_iff.1 hra.2).1
 obtain ⟨hp', a1, a2, a3, a4⟩ := app_own (E := encR) (hp := hp ++ [some (.row 22 [encI.S r])]) (id := rid) (e := 22) (l := rows) (m := [r]) (ex := ex) (bytes := 24) (x := .sl hp.length 0 1 1 1 true) (app_get hra.2) src_row (by simp) (by simp; omega) (by simp; omega)
 have hk1 : ∀ k, k < hp.length → (hp ++ [some (Blk.row 22 [encI.S r])])[k]? = hp[k]? := fun k hk => List.getElem?_append_left hk
 rw [List.length_append, List.length_singleton] at a1 a2 a3 a4
 have hkp : ∀ k, k < hp.length → k ≠ rid → hp'[k]? = hp[k]? := fun k hk hne => by rw [a3 k hne (by omega), hk1 k hk]
 refine ⟨hp', a1, by rw [hkp 0 (by omega) (by omega)]; exact r0, by rw [hkp 1 (by omega) (by omega)]; exact r1, ?_, by omega⟩
 have p2 : Pc2 hp ((rid, 22, encR.cs rows) :: (nid, 3, encI.cs next) :: (nxid, 22, finC fin) :: (acid, 4, encT.cs accs) :: finP fin) := pcs.perm (List.Perm.swap _ _ _)
 have hne : encR.cs rows ≠ [] := fun e => hz (List.eq_nil_of_length_eq_zero (by rw [← encR_len, e]; rfl))
 have p3 : Pc2 hp' ((hp.length + 1, 22, encR.cs (rows ++ [r])) :: (nid, 3, encI.cs next) :: (nxid, 22, finC fin) :: (acid, 4, encT.cs accs) :: finP fin) := p2.step (fun k h6 hk hn => hkp k hk (hn.resolve_left hne)) len (by simp only; exact a2) (by simp only; omega)
 exact p3.perm (List.Perm.swap _ _ _)
theorem Cs.more (h : Cs hp rid rows nxid acid nid fin accs next cls) (hz : rows ≠ []) (hl : fin.length ≤ 1000000) (hla : accs.length ≤ 1000000) (b : Bool) :
  ∃ hpA hpB hpC hpD, appA 22 1 24 (hp ++ [some (.row 22 [bld nid next.length 1])]) (bld nxid fin.length 1) (.sl hp.length 0 1 1 1 true) = some (bld (hp.length + 1) (fin.length + 1) 1, hpA) ∧ hpA[1]? = some (some (.row 26 [encI.S cls, bld nxid fin.length 1, bld acid accs.length 1])) ∧ hpA[rid]? = some (some (.row 22 (encR.cs rows))) ∧
   appA 4 1 1 (hpA ++ [some (.row 4 [.bool b])]) (bld acid accs.length 1) (.sl hpA.length 0 1 1 1 true) = some (bld (hpA.length + 1) (accs.length + 1) 1, hpB) ∧ storeA hpB 1 (.ptr 1 1) (bld (hp.length + 1) (fin.length + 1) 1) = some hpC ∧ storeA hpC 1 (.ptr 1 2) (bld (hpA.length + 1) (accs.length + 1) 1) = some hpD ∧
   Cs hpD rid rows (hp.length + 1) (hpA.length + 1) 0 (fin ++ [(nid, next)]) (accs ++ [b]) [] cls := by
 have hra := h.rows_at hz
 obtain ⟨r0, r1, pcs, len⟩ := h
 have p2 : Pc2 hp ((nxid, 22, finC fin) :: (nid, 3, encI.cs next) :: (rid, 22, encR.cs rows) :: (acid, 4, encT.cs accs) :: finP fin) := pcs.perm ((List.Perm.cons _ (List.Perm.swap _ _ _)).trans (List.Perm.swap _ _ _))
 obtain ⟨hpA, a1, a2, a3, a4, a5⟩ := p2.app (e2 := 22) (m := bld nid next.length 1) (ms := [bld nid next.length 1]) (bytes := 24) len rfl (by rw [finC_len]; omega) (by rw [finC_len]; omega)
 rw [finC_len] at a1
 have hA1 := (a3 1 (by omega)).trans r1
 have hne : encR.cs rows ≠ [] := fun e => hz (List.eq_nil_of_length_eq_zero (by rw [← encR_len, e]; rfl))
 have hAr := a5 (rid, 22, encR.cs rows) (by simp) hne
 have p3 : Pc2 hpA ((acid, 4, encT.cs accs) :: (hp.length + 1, 22, finC fin ++ [bld nid next.length 1]) :: (nid, 3, encI.cs next) :: (rid, 22, encR.cs rows) :: finP fin) :=
  a2.perm (((List.Perm.cons _ ((List.Perm.cons _ (List.Perm.swap _ _ _)).trans (List.Perm.swap _ _ _))).trans (List.Perm.swap _ _ _)))
 obtain ⟨hpB, b1, b2, b3, b4, b5⟩ := p3.app (e2 := 4) (m := .bool b) (ms := [.bool b]) (bytes := 1) (by omega) rfl (by rw [encT_len]; omega) (by rw [encT_len]; omega)
 rw [encT_len] at b1
 have hB1 := (b3 1 (by omega)).trans hA1
 have s1 := bld_store (id := hp.length + 1) (n := fin.length + 1) (off := 1) hB1 (by simp)
 have hBl := (List.getElem?_eq_some_iff.1 hB1).1
 have s2 := bld_store (id := hpA.length + 1) (n := accs.length + 1) (off := 2) (hp := hpB.set 1 (some (.row 26 (([encI.S cls, bld nxid fin.length 1, bld acid accs.length 1] : List AV).set 1 (bld (hp.length + 1) (fin.length + 1) 1))))) (List.getElem?_set_self hBl) (by simp)
 refine ⟨hpA, hpB, _, _, a1, hA1, hAr, b1, s1, s2, ?_⟩
 have ks : ∀ k, k ≠ 1 → ((hpB.set 1 (some (Blk.row 26 (([encI.S cls, bld nxid fin.length 1, bld acid accs.length 1] : List AV).set 1 (bld (hp.length + 1) (fin.length + 1) 1))))).set 1 (some (Blk.row 26 ((([encI.S cls, bld nxid fin.length 1, bld acid accs.length 1] : List AV).set 1 (bld (hp.length + 1) (fin.length + 1) 1)).set 2 (bld (hpA.length + 1) (accs.length + 1) 1)))))[k]? = hpB[k]? := fun k hk => by
  rw [List.getElem?_set_ne (Ne.symm hk), List.getElem?_set_ne (Ne.symm hk)]
 refine ⟨?_, ?_, ?_, ?_⟩
 ·rw [ks 0 (by omega), b3 0 (by omega), a3 0 (by omega)]
  exact r0
 ·rw [List.getElem?_set_self (by rw [List.length_set]; exact hBl)]
  simp only [List.length_append, List.length_singleton]
  rfl
 ·have p4 : Pc2 _ _ := b2.keep (fun k h6 hk => ks k (by omega))
  rw [show finC fin ++ [bld nid next.length 1] = finC (fin ++ [(nid, next)]) by simp [finC], show encT.cs accs ++ [.bool b] = encT.cs (accs ++ [b]) by rw [encT.cs_app]; rfl] at p4
  refine Pc2.nil ?_ 0 3
  refine p4.perm ?_
  rw [show finP (fin ++ [(nid, next)]) = finP fin ++ [(nid, 3, encI.cs next)] by simp [finP]]
  -- (ac, nx, n, rows, fin) to (rows, nx, ac, fin ++ [n])
  refine (List.Perm.cons _ (List.Perm.cons _ (List.Perm.swap _ _ _))).trans ?_
  refine (List.Perm.cons _ (List.Perm.swap _ _ _)).trans ?_
  refine (List.Perm.swap _ _ _).trans (List.Perm.cons _ ?_)
  refine (List.Perm.swap _ _ _).trans (List.Perm.cons _ (List.Perm.cons _ ?_))
  exact (List.perm_append_singleton _ _).symm
 ·rw [List.length_set, List.length_set]
  omega
theorem finC_frzL {hp' : HP} : ∀ (fin : List (Nat × List Int)), (∀ q ∈ fin, q.2 = [] ∨ hp'[q.1]? = some (some (.row 3 (encI.cs q.2)))) → FrzL hp' (finC fin) (encR.cs (fin.map (·.2)))
 | [], _ => FrzL.nil _
 | q :: fin, hat => by
  have hb : BldAt encI hp' q.1 3 q.2 := hat q (List.mem_cons_self ..)
  exact FrzL.cons (frz_ok hb.frz) (finC_frzL fin fun q hq => hat q (List.mem_cons_of_mem _ hq))
theorem Cs.frz (h : Cs hp rid rows nxid acid nid fin accs next cls) {hp' : HP} (hk : ∀ k, 1 ≤ k → hp'[k]? = hp[k]?) : Frz hp' (.tup [.agg [encI.S cls, bld nxid fin.length 1, bld acid accs.length 1], .bool true]) (.tup [.agg (Dfa.c ⟨cls, fin.map (·.2), accs⟩), .bool true]) := by
 obtain ⟨r0, r1, pcs, len⟩ := h
 refine Frz.tup (FrzL.cons (Frz.agg (FrzL.cons ?_ (FrzL.cons ?_ (FrzL.cons ?_ (FrzL.nil _))))) (FrzL.cons (Frz.bool _ _) (FrzL.nil _)))
 ·exact frz_ok (Enc.S_frz _ _ _)
 ·have h1 := pcs.at_ (nxid, 22, finC fin) (by simp)
  simp only at h1
  rw [bld]
  split
  ·rename_i h0
   have : fin = [] := List.eq_nil_of_length_eq_zero h0
   subst this
   exact Frz.nils' _
  ·rename_i h0
   have h1 := h1.resolve_left (fun e => h0 (by rw [← finC_len, e]; rfl))
   have hat : ∀ q ∈ fin, q.2 = [] ∨ hp'[q.1]? = some (some (.row 3 (encI.cs q.2))) := by
    intro q hq
    rcases pcs.at_ (q.1, 3, encI.cs q.2) (by simp only [List.mem_cons]; exact .inr (.inr (.inr (.inr (List.mem_map.2 ⟨q, hq, rfl⟩))))) with h | ⟨h, h'⟩
    ·exact .inl (encI_nil h)
    ·exact .inr (by rw [hk q.1 (by simp only at h; omega)]; exact h')
   have := Frz.sl (off := 0) (lo := fin.length) (ex := false) (len := fin.length) (sz := 1) (hk nxid (by omega) ▸ h1.2) (by rw [finC_len]; omega) (as' := encR.cs (fin.map (·.2))) (by
    rw [List.drop_zero, List.take_of_length_le (by rw [finC_len]; omega)]
    exact finC_frzL fin hat)
   simpa only [Enc.S, List.length_map] using this
 ·have h1 := pcs.at_ (acid, 4, encT.cs accs) (by simp)
  simp only at h1
  have hb : BldAt encT hp' acid 4 accs := by
   rcases h1 with h1 | ⟨h1, h2⟩
   ·exact .inl (List.eq_nil_of_length_eq_zero (by rw [← encT_len, h1]; rfl))
   ·exact .inr (by rw [hk acid (by omega)]; exact h2)
  exact frz_ok hb.frz
end
end
section
open Go Go.Proofs
def Q0 : Tab := ((J2.addO 25 (.cons .str (.cons .bool .nil)) fun p => if p.1.length ≤ 300 then some (.rd true (.tup [nV (newV p.1 p.2.1), .int .i64 (checkG p.1)])) else none).addO 26 (.cons .nfa .nil) fun p => match p.1 with
 | some (q, f) => if q.length ≤ 1000000 then some (.rd true (.tup [encI.S (clsL q f), encB.S (smD q f)])) else none
 | none => none).addO 29 (.cons (.S encR) (.cons (.S encI) .nil)) fun p => if p.1.length ≤ 1000000 ∧ ∀ x ∈ p.1, x.length ≤ 1000000 then some (.rd true (.int .i64 (plc p.1 p.2.1 : Nat))) else none
theorem Q0_ok : TabOk Tryz.prog Q0 := by
 refine TabOk.addO (TabOk.addO (TabOk.addO J2_ok ?_) ?_) ?_
 ·intro p r h
  split at h
  ·rename_i hv; cases h; exact rNew p.1 p.2.1 hv
  ·cases h
 ·intro p r h
  obtain ⟨x, u⟩ := p
  cases x with
  | none => cases h
  | some a =>
   simp only at h
   split at h
   ·rename_i hv; cases h; exact rClasses hv
   ·cases h
 ·intro p r h
  split at h
  ·rename_i hv; cases h; exact rplace p.1 p.2.1 hv.1 hv.2
  ·cases h
theorem Q0_place {rows : List (List Int)} (r : List Int) (h : rows.length ≤ 1000000) (h2 : ∀ x ∈ rows, x.length ≤ 1000000) : Q0 29 [encR.S rows, encI.S r] = some (.rd true (.int .i64 (plc rows r : Nat))) :=
 (Tab.addO_self _ _ (.cons (.S encR) (.cons (.S encI) .nil)) _ (rows, r, ())).trans (if_pos ⟨h, h2⟩)
theorem Q0_classes {q : List UInt8} (f : Bool) (h : q.length ≤ 1000000) : Q0 26 [nP q f] = some (.rd true (.tup [encI.S (clsL q f), encB.S (smD q f)])) :=
 (Tab.addO_ne _ _ _ _ rfl _).trans ((Tab.addO_self _ _ (.cons .nfa .nil) _ (some (q, f), ())).trans (if_pos h))
theorem Q0_new {p : List UInt8} (f : Bool) (h : p.length ≤ 300) : Q0 25 [.str p, .bool f] = some (.rd true (.tup [nV (newV p f), .int .i64 (checkG p)])) :=
 (Tab.addO_ne _ _ _ _ rfl _).trans ((Tab.addO_ne _ _ _ _ rfl _).trans ((Tab.addO_self _ _ (.cons .str (.cons .bool .nil)) _ (p, f, ())).trans (if_pos h)))
theorem Q0_J2 {g : FuncId} {xs : List AV} (h : (Nat.beq g 25 || Nat.beq g 26 || Nat.beq g 29) = false) : Q0 g xs = J2 g xs := by
 simp only [Bool.or_eq_false_iff] at h
 exact (Tab.addO_ne _ _ _ _ h.2 _).trans ((Tab.addO_ne _ _ _ _ h.1.2 _).trans (Tab.addO_ne _ _ _ _ h.1.1 _))
section
variable {q : List UInt8} {f : Bool}
theorem Q0_start (h0 : q ≠ []) (h : q.length ≤ 100000) : Q0 27 [nP q f] = some (.rd true (encI.S (startI (some (q, f))))) := by
 rw [Q0_J2 rfl, J2_start q f h, startI, nN_some h0]
 rfl
theorem Q0_step (h0 : q ≠ []) (h : q.length ≤ 100000) {l : List Int} (hl : l.length ≤ 1000000) (c : UInt8) : Q0 28 [nP q f, encI.S l, .int .u8 c.toNat] = some (.rd true (encI.S (stD (some (q, f)) l c))) := by
 rw [Q0_J2 rfl, J2_step q f l c h hl, stD, nN_some h0]
 rfl
theorem Q0_acc (h : q.length ≤ 100000) {l : List Int} (hl : l.length ≤ 1000000) : Q0 30 [nP q f, encI.S l] = some (.rd true (.bool (accI (some (q, f)) l))) := by
 rw [Q0_J2 rfl, J2_acc q f l h hl]
 rfl
abbrev badE (tm' : Env) (hp' : HP) : Prop := RetE [.cell 6 (some 3), .t 7] (fun r' hp' => Frz hp' r' (.tup [.agg noDfa.c, .bool false])) .ret tm' hp'
theorem bd_bad {tm : Env} {hp : HP} {hint : Nat → Nat} {n : Nat} (h0 : hp[0]? = some (some (.row 26 [.nils, .nils, .nils]))) (t6 : tm 6 = .ptr 0 0) : vcE Tryz.prog hint Q0 n (IC.seq (IC.reg r8_3) IC.ret) tm hp fun e' tm' hp' => e' = .ret ∧ badE tm' hp' := by
 have h0l := (List.getElem?_eq_some_iff.1 h0).1
 have hbst : fillA [(0, 1), (1, 1), (2, 1)] [.nils, .nils, .nils] (([] : List Nat).zip ([] : List AV)) = some [.nils, .nils, .nils] := rfl
 have hst : storeA hp 3 (.ptr 0 0) (.agg [.nils, .nils, .nils]) = some (hp.set 0 (some (.row 26 [.nils, .nils, .nils]))) := by
  simp only [storeA, h0, cellsA]
  rfl
 refine vcE.ex (by simp (disch := first | assumption | omega) only [go_sem, ↓reduceIte, ↓hbst, Nat.reduceEqDiff, t6, ↓hst]; rfl) ?_
 refine ⟨rfl, .tup [.agg [.nils, .nils, .nils], .bool false], ?_, frz_ok rfl⟩
 simp only [resE, resEL, resE1, upd_app, Nat.reduceEqDiff, ↓reduceIte, t6, loadA, rowA, List.getElem?_set_self h0l]
 rfl
theorem bd_much {tm : Env} {hp : HP} {hint : Nat → Nat} {n : Nat} (h0 : hp[0]? = some (some (.row 26 [.nils, .nils, .nils]))) (t6 : tm 6 = .ptr 0 0) : vcE Tryz.prog hint Q0 n (IC.seq (IC.reg r8_17) IC.ret) tm hp fun e' tm' hp' => e' = .ret ∧ badE tm' hp' := by
 have h0l := (List.getElem?_eq_some_iff.1 h0).1
 have hbst : fillA [(0, 1), (1, 1), (2, 1)] [.nils, .nils, .nils] (([] : List Nat).zip ([] : List AV)) = some [.nils, .nils, .nils] := rfl
 have hst : storeA hp 3 (.ptr 0 0) (.agg [.nils, .nils, .nils]) = some (hp.set 0 (some (.row 26 [.nils, .nils, .nils]))) := by
  simp only [storeA, h0, cellsA]
  rfl
 refine vcE.ex (by simp (disch := first | assumption | omega) only [go_sem, ↓reduceIte, ↓hbst, Nat.reduceEqDiff, t6, ↓hst]; rfl) ?_
 refine ⟨rfl, .tup [.agg [.nils, .nils, .nils], .bool false], ?_, frz_ok rfl⟩
 simp only [resE, resEL, resE1, upd_app, Nat.reduceEqDiff, ↓reduceIte, t6, loadA, rowA, List.getElem?_set_self h0l]
 rfl
structure Rw (q : List UInt8) (f : Bool) (most : Int) (sm : List UInt8) (i : Nat) (tm : Env) : Prop where
 t2 : tm 2 = .int .i64 most
 t6 : tm 6 = .ptr 0 0
 t8 : tm 8 = nP q f
 t11 : tm 11 = encB.S sm
 t12 : tm 12 = .ptr 1 0
 t14 : tm 14 = .int .i64 (i : Int)
theorem bd_inner (h0q : q ≠ []) (hq : q.length ≤ 1000) {mN : Nat} (hmN : mN ≤ 256) {sm : List UInt8} (hsm : sm.length ≤ 2000) {rid nxid acid : Nat} {rows : List (List Int)} {fin : List (Nat × List Int)} {accs : List Bool} {cls : List Int} {ex : Bool} {hp : HP} {tm : Env} {hint : Nat → Nat} {n i : Nat} {row : List Int} (hrow : rows[i]? = some row) (hrl : ∀ r ∈ rows, r.length ≤ 1000000) (hn : rows.length ≤ mN) (hb : Cs hp rid rows nxid acid 0 fin accs [] cls) (hv : Rw q f mN sm i tm) (t13 : tm 13 = .sl rid 0 rows.length 1 rows.length ex) (t15 : tm 15 = .nils) :
  vcE Tryz.prog hint Q0 n (IC.seq (IC.reg r8_10) (IC.block 2 (IC.loop b8_0))) tm hp fun e' tm' hp' => (e' = .ret ∧ nxG mN (stD (some (q, f)) row) sm ([], rows) = none ∧ badE tm' hp') ∨ (e' = .normal ∧ ∃ (rid' nid' : Nat) (ex' : Bool) (s : List Int × List (List Int)), nxG mN (stD (some (q, f)) row) sm ([], rows) = some s ∧ Cs hp' rid' s.2 nxid acid nid' fin accs s.1 cls ∧ s.2[i]? = some row ∧ (∀ r ∈ s.2, r.length ≤ 1000000) ∧ s.2.length ≤ mN ∧ s.1.length ≤ 2000 ∧ Rw q f mN sm i tm' ∧ tm' 13 = .sl rid' 0 s.2.length 1 s.2.length ex' ∧ tm' 15 = bld nid' s.1.length 1) := by
 obtain ⟨t2, t6, t8, t11, t12, t14⟩ := hv
 refine vcE.step (by simp (disch := first | assumption | omega) only [go_sem, ↓reduceIte]; rfl) (vcE.block (vcE.count (by intro l tm hp h; simp at h)
  (fun j tm' hp' => ∃ (rid' nid' : Nat) (ex' : Bool) (s : List Int × List (List Int)), nxG mN (stD (some (q, f)) row) (sm.drop j) s = nxG mN (stD (some (q, f)) row) sm ([], rows) ∧ Cs hp' rid' s.2 nxid acid nid' fin accs s.1 cls ∧ s.2[i]? = some row ∧ (∀ r ∈ s.2, r.length ≤ 1000000) ∧ s.2.length ≤ mN ∧ s.1.length = j ∧ Rw q f mN sm i tm' ∧ tm' 13 = .sl rid' 0 s.2.length 1 s.2.length ex' ∧ tm' 15 = bld nid' s.1.length 1 ∧ tm' 16 = .int .i64 (j : Int)) sm.length ⟨rid, 0, ex, ([], rows), rfl, hb, hrow, hrl, hn, rfl, ⟨?_, ?_, ?_, ?_, ?_, ?_⟩, ?_, ?_, ?_⟩ ?_ ?_))
 ·simp only [upd_app, Nat.reduceEqDiff, ↓reduceIte, t2]
 ·simp only [upd_app, Nat.reduceEqDiff, ↓reduceIte, t6]
 ·simp only [upd_app, Nat.reduceEqDiff, ↓reduceIte, t8]
 ·simp only [upd_app, Nat.reduceEqDiff, ↓reduceIte, t11]
 ·simp only [upd_app, Nat.reduceEqDiff, ↓reduceIte, t12]
 ·simp only [upd_app, Nat.reduceEqDiff, ↓reduceIte, t14]
 ·simp only [upd_app, Nat.reduceEqDiff, ↓reduceIte, t13]
 ·simp only [upd_app, Nat.reduceEqDiff, ↓reduceIte, t15]
  rfl
 ·simp only [upd_app, Nat.reduceEqDiff, ↓reduceIte]
  rfl
 ·clear t2 t6 t8 t11 t12 t13 t14 t15 hb hrow hrl hn
  rintro j tm hp hj ⟨rid', nid', ex', s, hnx, hb, hri, hrl, hn, hsl, ⟨t2, t6, t8, t11, t12, t14⟩, t13, t15, t16⟩
  have hg := List.getElem?_eq_getElem hj
  rw [List.drop_eq_getElem_cons hj, nxG] at hnx
  generalize sm[j] = c at hg hnx
  have hz : s.2 ≠ [] := by
   intro e
   rw [e] at hri
   simp at hri
  have hil : i < s.2.length := (List.getElem?_eq_some_iff.1 hri).1
  have hrowl : row.length ≤ 1000000 := hrl row (List.mem_of_getElem? hri)
  have hra := (hb.rows_at hz).2
  have y1 : iaddrA 1 (.sl rid' 0 s.2.length 1 s.2.length ex') (.int .i64 (i : Int)) = some (.ptr rid' i) := iaddr_sl1 hil
  have y2 : iaddrA 1 (encB.S sm) (.int .i64 (j : Int)) = some (.fptr (encB.cs sm) (j * 1)) := encB.S_iaddr hj
  rw [Nat.mul_one] at y2
  have p1 := encR_at hri
  have p2 : pickA none (encB.cs sm) j = some (.int .u8 c.toNat) := encB.pick1 (l := sm) rfl hg (v := .int .u8 c.toNat) rfl rfl
  have hfz : ∀ hp, frz hp (nP q f) = some (nP q f) := fun _ => rfl
  have k1 := Q0_step (f := f) h0q (by omega) hrowl c
  generalize hr : stD (some (q, f)) row c = r at k1 hnx
  have hrl2 : r.length ≤ 1000000 := by
   rw [← hr]
   refine Nat.le_trans (lstLen _ _) ?_
   rw [nN_some h0q]
   omega
  have hfr : frz hp (.sl rid' 0 s.2.length 1 s.2.length ex') = some (encR.S s.2) := encR.sl_frz hra
  have k2 := Q0_place (rows := s.2) r (by omega) hrl
  have hple := plc_le s.2 r
  have hw : IntKind.wrap .i64 ((j : Int) + 1) = ((j + 1 : Nat) : Int) := wrap_i64 (by omega) (by omega)
  have hlt : (j : Int) < (sm.length : Int) := by omega
  refine vcE.step (by simp (disch := first | assumption | omega) only [go_sem, ↓reduceIte, t16, Nat.reduceEqDiff, t11, hlt]; rfl) ?_
  refine vcE.then (fun e' tm' hp' => (e' = .ret ∧ nxG mN (stD (some (q, f)) row) sm ([], rows) = none ∧ badE tm' hp') ∨ (e' = .normal ∧ ∃ (rid2 nid2 : Nat) (ex2 : Bool) (s2 : List Int × List (List Int)), nxG mN (stD (some (q, f)) row) (sm.drop (j + 1)) s2 = nxG mN (stD (some (q, f)) row) sm ([], rows) ∧ Cs hp' rid2 s2.2 nxid acid nid2 fin accs s2.1 cls ∧ s2.2[i]? = some row ∧ (∀ r ∈ s2.2, r.length ≤ 1000000) ∧ s2.2.length ≤ mN ∧ s2.1.length = j + 1 ∧ Rw q f mN sm i tm' ∧ tm' 13 = .sl rid2 0 s2.2.length 1 s2.2.length ex2 ∧ tm' 15 = bld nid2 s2.1.length 1 ∧ tm' 16 = .int .i64 (j : Int))) ?_ ?_
  rotate_left
  ·rintro e tm' hp' (⟨rfl, h1, h2⟩ | ⟨rfl, rid2, nid2, ex2, s2, g1, g2, g3, g4, g5, g6, ⟨u2, u6, u8, u11, u12, u14⟩, u13, u15, u16⟩)
   ·exact .inl ⟨rfl, h1, h2⟩
   ·refine vcE.ex (by simp (disch := first | assumption | omega) only [go_sem, ↓reduceIte, u16, hw]; rfl) ?_
    refine ⟨rid2, nid2, ex2, s2, g1, g2, g3, g4, g5, g6, ⟨?_, ?_, ?_, ?_, ?_, ?_⟩, ?_, ?_, ?_⟩
    all_goals simp only [upd_app, Nat.reduceEqDiff, ↓reduceIte, u2, u6, u8, u11, u12, u13, u14, u15]
  refine vcE.block (vcE.step (by simp (disch := first | assumption | omega) only [go_sem, ↓reduceIte, Nat.reduceEqDiff, t8, t13, t14, y1, hra, ↓p1, t11, t16, y2, ↓p2, hfz, k1, nP_nid]; rfl) (vcE.step (by simp (disch := first | assumption | omega) only [go_sem, ↓reduceIte, Nat.reduceEqDiff, t13, hfr, k2]; rfl) ?_))
  have hlen13 : ∀ hp : HP, lenA hp (.sl rid' 0 s.2.length 1 s.2.length ex') = some (.int .i64 (s.2.length : Int)) := fun _ => rfl
  have hfit13 : lenFits .slice (.sl rid' 0 s.2.length 1 s.2.length ex') = true := rfl
  refine vcE.then (fun e tm2 hp2 => e = .normal ∧ ∃ (rid2 : Nat) (ex2 : Bool), Cs hp2 rid2 (numG s.2 r) nxid acid nid' fin accs s.1 cls ∧ Rw q f mN sm i tm2 ∧ tm2 13 = .sl rid2 0 (numG s.2 r).length 1 (numG s.2 r).length ex2 ∧ tm2 15 = bld nid' s.1.length 1 ∧ tm2 16 = .int .i64 (j : Int) ∧ tm2 18 = .int .i64 (plc s.2 r : Nat)) ?_ ?_
  ·by_cases hpl : plc s.2 r = s.2.length
   ·have hng : numG s.2 r = s.2 ++ [r] := if_pos hpl
    rw [hng]
    obtain ⟨hp', a1, a2⟩ := hb.row hz r (ex := ex') (by omega)
    have hpl' : ((plc s.2 r : Nat) : Int) = (s.2.length : Int) := by omega
    refine vcE.ex (by simp (disch := first | assumption | omega) only [go_sem, ↓reduceIte, hpl', Nat.reduceEqDiff, t13, hfit13, ↓hlen13, ↓a1]; rfl) ?_
    refine ⟨rfl, _, false, a2, ⟨?_, ?_, ?_, ?_, ?_, ?_⟩, ?_, ?_, ?_, ?_⟩
    all_goals simp only [upd_app, Nat.reduceEqDiff, ↓reduceIte, t2, t6, t8, t11, t12, t14, t15, t16, hpl']
   ·have hng : numG s.2 r = s.2 := if_neg hpl
    rw [hng]
    have hpl' : ¬ ((plc s.2 r : Nat) : Int) = (s.2.length : Int) := by omega
    refine vcE.ex (by simp (disch := first | assumption | omega) only [go_sem, ↓reduceIte, Nat.reduceEqDiff, t13, hfit13, ↓hlen13, hpl', decide_false]; rfl) ?_
    refine ⟨rfl, rid', ex', hb, ⟨?_, ?_, ?_, ?_, ?_, ?_⟩, ?_, ?_, ?_, ?_⟩
    all_goals simp only [upd_app, Nat.reduceEqDiff, ↓reduceIte, t2, t6, t8, t11, t12, t13, t14, t15, t16]
  clear t2 t6 t8 t11 t12 t13 t14 t15 t16 y1 hra hfr hlen13 hfit13 hb
  rintro e tm hp ⟨rfl, rid2, ex2, hb, ⟨t2, t6, t8, t11, t12, t14⟩, t13, t15, t16, t18⟩
  have hlen13 : ∀ hp : HP, lenA hp (.sl rid2 0 (numG s.2 r).length 1 (numG s.2 r).length ex2) = some (.int .i64 ((numG s.2 r).length : Int)) := fun _ => rfl
  have hfit13 : lenFits .slice (.sl rid2 0 (numG s.2 r).length 1 (numG s.2 r).length ex2) = true := rfl
  by_cases hmu : mN < (numG s.2 r).length
  ·rw [if_pos hmu] at hnx
   have hmu' : ((numG s.2 r).length : Int) > (mN : Int) := by omega
   refine vcE.seq (vcE.step (by simp (disch := first | assumption | omega) only [go_sem, ↓reduceIte, t13, hfit13, ↓hlen13, Nat.reduceEqDiff, t2, hmu']; rfl) (vcE.condTrue (by simp only [evE, upd_app, Nat.reduceEqDiff, ↓reduceIte]) (vcE.mono (bd_much hb.r0 (by simp only [upd_app, Nat.reduceEqDiff, ↓reduceIte, t6])) ?_)))
   rintro e tm hp ⟨rfl, h⟩
   exact .inl ⟨rfl, hnx.symm, h⟩
  ·rw [if_neg hmu] at hnx
   have hmu' : ¬ ((numG s.2 r).length : Int) > (mN : Int) := by omega
   obtain ⟨hp', a1, a2⟩ := hb.app (plc s.2 r : Int) (by omega)
   refine vcE.step (by simp (disch := first | assumption | omega) only [go_sem, ↓reduceIte, t13, hfit13, ↓hlen13, Nat.reduceEqDiff, t2, hmu', decide_false]; rfl) (vcE.ex (by simp (disch := first | assumption | omega) only [go_sem, ↓reduceIte, Nat.reduceEqDiff, t15, t18, ↓a1]; rfl) ?_)
   refine .inr ⟨rfl, rid2, _, ex2, (s.1 ++ [(plc s.2 r : Int)], numG s.2 r), hnx, a2, ?_, ?_, by simp only; omega, by simp [hsl], ⟨?_, ?_, ?_, ?_, ?_, ?_⟩, ?_, ?_, ?_⟩
   ·simp only
    unfold numG
    split
    ·exact get_more hri
    ·exact hri
   ·simp only
    unfold numG
    split
    ·intro y hy
     rcases List.mem_append.1 hy with h | h
     ·exact hrl y h
     ·rw [List.mem_singleton] at h
      rw [h]
      exact hrl2
    ·exact hrl
   all_goals simp only [upd_app, Nat.reduceEqDiff, ↓reduceIte, t2, t6, t8, t11, t12, t13, t14, t16]
 ·clear t2 t6 t8 t11 t12 t13 t14 t15 hb hrow hrl hn
  rintro tm hp ⟨rid', nid', ex', s, hnx, hb, hri, hrl, hn, hsl, ⟨t2, t6, t8, t11, t12, t14⟩, t13, t15, t16⟩
  rw [List.drop_length, nxG] at hnx
  have hlt : ¬ (sm.length : Int) < (sm.length : Int) := by omega
  refine vcE.ex (by simp (disch := first | assumption | omega) only [go_sem, ↓reduceIte, t16, Nat.reduceEqDiff, t11, hlt, decide_false]; rfl) ?_
  refine .inr ⟨rfl, rid', nid', ex', s, hnx.symm, hb, hri, hrl, hn, by omega, ⟨?_, ?_, ?_, ?_, ?_, ?_⟩, ?_, ?_⟩
  all_goals simp only [upd_app, Nat.reduceEqDiff, ↓reduceIte, t2, t6, t8, t11, t12, t13, t14, t15]
end
end
section
open Go Go.Proofs
section
variable {q : List UInt8} {f : Bool}
theorem bldG_row {st : List Int → UInt8 → List Int} {ac : List Int → Bool} {sm : List UInt8} {most k i : Nat} {rows nx : List (List Int)} {acs : List Bool} {row : List Int} (h : rows[i]? = some row) : bldG st ac sm most (k + 1) i rows nx acs = match nxG most (st row) sm ([], rows) with
  | none => none
  | some s => bldG st ac sm most k (i + 1) s.2 (nx ++ [s.1]) (acs ++ [ac row]) := by
 rw [bldG, h]
 rfl
theorem bldG_end {st : List Int → UInt8 → List Int} {ac : List Int → Bool} {sm : List UInt8} {most k i : Nat} {rows nx : List (List Int)} {acs : List Bool} (h : rows[i]? = none) : bldG st ac sm most (k + 1) i rows nx acs = some (nx, acs) := by
 rw [bldG, h]
theorem bd_outer (h0q : q ≠ []) (hq : q.length ≤ 1000) {mN : Nat} (hmN : mN ≤ 256) {sm : List UInt8} (hsm : sm.length ≤ 2000) {rid : Nat} {rows : List (List Int)} {cls : List Int} {ex : Bool} {hp : HP} {tm : Env} {hint : Nat → Nat} {n : Nat} (hz : rows ≠ []) (hrl : ∀ r ∈ rows, r.length ≤ 1000000) (hn : rows.length ≤ mN) (hb : Cs hp rid rows 0 0 0 [] [] [] cls) (hv : Rw q f mN sm 0 tm) (t13 : tm 13 = .sl rid 0 rows.length 1 rows.length ex) :
  vcE Tryz.prog hint Q0 n (IC.block 0 (IC.loop b8_1)) tm hp fun e' tm' hp' => (e' = .ret ∧ bldG (stD (some (q, f))) (accI (some (q, f))) sm mN (mN + 1) 0 rows [] [] = none ∧ badE tm' hp') ∨ (e' = .normal ∧ ∃ rid' rows' nxid acid fin accs, bldG (stD (some (q, f))) (accI (some (q, f))) sm mN (mN + 1) 0 rows [] [] = some (fin.map (·.2), accs) ∧ Cs hp' rid' rows' nxid acid 0 fin accs [] cls ∧ tm' 6 = .ptr 0 0 ∧ tm' 12 = .ptr 1 0) := by
 refine vcE.block (vcE.loop (by intro l tm hp h; simp at h) (fun k tm' hp' => ∃ (i rid' : Nat) (ex' : Bool) (rows' : List (List Int)) (nxid acid : Nat) (fin : List (Nat × List Int)) (accs : List Bool), k = mN + 1 - i ∧ i ≤ mN ∧ i ≤ rows'.length ∧ rows' ≠ [] ∧ rows'.length ≤ mN ∧ (∀ r ∈ rows', r.length ≤ 1000000) ∧ fin.length = i ∧ accs.length = i ∧ bldG (stD (some (q, f))) (accI (some (q, f))) sm mN (mN + 1 - i) i rows' (fin.map (·.2)) accs = bldG (stD (some (q, f))) (accI (some (q, f))) sm mN (mN + 1) 0 rows [] [] ∧ Cs hp' rid' rows' nxid acid 0 fin accs [] cls ∧ Rw q f mN sm i tm' ∧ tm' 13 = .sl rid' 0 rows'.length 1 rows'.length ex') (mN + 1) ⟨0, rid, ex, rows, 0, 0, [], [], rfl, by omega, by omega, hz, hn, hrl, rfl, rfl, rfl, hb, hv, t13⟩ ?_)
 clear hb hv hrl hn hz t13
 rintro k tm hp ⟨i, rid', ex', rows', nxid, acid, fin, accs, rfl, him, hir, hne, hrn, hrl, hfl, hal, hR, hb, ⟨t2, t6, t8, t11, t12, t14⟩, t13⟩
 have hlen13 : ∀ hp : HP, lenA hp (.sl rid' 0 rows'.length 1 rows'.length ex') = some (.int .i64 (rows'.length : Int)) := fun _ => rfl
 have hfit13 : lenFits .slice (.sl rid' 0 rows'.length 1 rows'.length ex') = true := rfl
 rw [show mN + 1 - i = (mN - i) + 1 by omega] at hR
 by_cases hlt : i < rows'.length
 rotate_left
 ·have hnone : rows'[i]? = none := List.getElem?_eq_none (by omega)
  rw [bldG_end hnone] at hR
  refine vcE.ex (by simp (disch := first | assumption | omega) only [go_sem, ↓reduceIte, t14, Nat.reduceEqDiff, t13, hfit13, ↓hlen13, Int.ofNat_lt, hlt, decide_false]; rfl) ?_
  refine .inr ⟨rfl, rid', rows', nxid, acid, fin, accs, hR.symm, hb, ?_, ?_⟩
  all_goals simp only [upd_app, Nat.reduceEqDiff, ↓reduceIte, t6, t12]
 have hg := List.getElem?_eq_getElem hlt
 generalize rows'[i] = row at hg
 rw [bldG_row hg] at hR
 refine vcE.step (by simp (disch := first | assumption | omega) only [go_sem, ↓reduceIte, t14, Nat.reduceEqDiff, t13, hfit13, ↓hlen13, Int.ofNat_lt, hlt]; rfl) ?_
 refine vcE.then (fun e' tm' hp' => (e' = .ret ∧ bldG (stD (some (q, f))) (accI (some (q, f))) sm mN (mN + 1) 0 rows [] [] = none ∧ badE tm' hp') ∨ (e' = .normal ∧ ∃ (rid2 : Nat) (ex2 : Bool) (nxid2 acid2 : Nat) (fin2 : List (Nat × List Int)) (accs2 : List Bool) (s : List Int × List (List Int)), nxG mN (stD (some (q, f)) row) sm ([], rows') = some s ∧ fin2.length = i + 1 ∧ accs2.length = i + 1 ∧ fin2.map (·.2) = fin.map (·.2) ++ [s.1] ∧ accs2 = accs ++ [accI (some (q, f)) row] ∧ Cs hp' rid2 s.2 nxid2 acid2 0 fin2 accs2 [] cls ∧ (∀ r ∈ s.2, r.length ≤ 1000000) ∧ s.2[i]? = some row ∧ s.2.length ≤ mN ∧ Rw q f mN sm i tm' ∧ tm' 13 = .sl rid2 0 s.2.length 1 s.2.length ex2)) ?_ ?_
 rotate_left
 ·rintro e' tm' hp' (⟨rfl, h1, h2⟩ | ⟨rfl, rid2, ex2, nxid2, acid2, fin2, accs2, s, hs, hf2, ha2, hfm, hac, hb2, hrl2, hg2, hn2, ⟨u2, u6, u8, u11, u12, u14⟩, u13⟩)
  ·exact .inl ⟨rfl, h1, h2⟩
  ·have w1 : IntKind.wrap .i64 ((i : Int) + 1) = ((i + 1 : Nat) : Int) := wrap_i64 (by omega) (by omega)
   have hi2 := (List.getElem?_eq_some_iff.1 hg2).1
   rw [hs] at hR
   simp only at hR
   refine vcE.ex (by simp (disch := first | assumption | omega) only [go_sem, ↓reduceIte, u14, w1]; rfl) ?_
   refine ⟨mN - i, by omega, i + 1, rid2, ex2, s.2, nxid2, acid2, fin2, accs2, by omega, by omega, by omega, ?_, hn2, hrl2, hf2, ha2, ?_, hb2, ⟨?_, ?_, ?_, ?_, ?_, ?_⟩, ?_⟩
   ·intro e
    rw [e] at hi2
    simp at hi2
   ·rw [hfm, hac, show mN + 1 - (i + 1) = mN - i by omega]
    exact hR
   all_goals simp only [upd_app, Nat.reduceEqDiff, ↓reduceIte, u2, u6, u8, u11, u12, u13]
 refine vcE.block (vcE.step (by simp (disch := first | assumption | omega) only [go_sem, ↓reduceIte]; rfl) (vcE.then _ (bd_inner (f := f) (ex := ex') h0q hq hmN hsm hg hrl hrn hb ⟨?_, ?_, ?_, ?_, ?_, ?_⟩ ?_ ?_) ?_))
 ·simp only [upd_app, Nat.reduceEqDiff, ↓reduceIte, t2]
 ·simp only [upd_app, Nat.reduceEqDiff, ↓reduceIte, t6]
 ·simp only [upd_app, Nat.reduceEqDiff, ↓reduceIte, t8]
 ·simp only [upd_app, Nat.reduceEqDiff, ↓reduceIte, t11]
 ·simp only [upd_app, Nat.reduceEqDiff, ↓reduceIte, t12]
 ·simp only [upd_app, Nat.reduceEqDiff, ↓reduceIte, t14]
 ·simp only [upd_app, Nat.reduceEqDiff, ↓reduceIte, t13]
 ·simp only [upd_app, Nat.reduceEqDiff, ↓reduceIte]
 clear t2 t6 t8 t11 t12 t13 t14 hlen13 hfit13 hb
 rintro e' tm hp2 (⟨rfl, hno, h⟩ | ⟨rfl, rid2, nid2, ex2, s, hs, hb, hg2, hrl2, hn2, hs1, ⟨t2, t6, t8, t11, t12, t14⟩, t13, t15⟩)
 ·rw [hno] at hR
  exact .inl ⟨rfl, hR.symm, h⟩
 have hq0 : s.2 ≠ [] := by
  intro e
  rw [e] at hg2
  simp at hg2
 obtain ⟨hpA, hpB, hpC, hpD, a1, a2, a3, b1, b2, b3, hb3⟩ := hb.more hq0 (by omega) (by omega) (accI (some (q, f)) row)
 have r1 := hb.r1
 have hra := (hb.rows_at hq0).2
 have r1T : (hp2 ++ [some (Blk.row 22 [bld nid2 s.1.length 1])])[1]? = _ := app_get r1
 have hraT : (hp2 ++ [some (Blk.row 22 [bld nid2 s.1.length 1])])[rid2]? = _ := app_get hra
 have hob := bld_one nxid fin.length 1
 have hoc := bld_one acid accs.length 1
 have pk1 : pickA none [encI.S cls, bld nxid fin.length 1, bld acid accs.length 1] 1 = some (bld nxid fin.length 1) := by
  simp only [pickA, List.getElem?_cons_succ, List.getElem?_cons_zero]
  rw [if_pos hob]
 have pk2 : pickA none [encI.S cls, bld nxid fin.length 1, bld acid accs.length 1] 2 = some (bld acid accs.length 1) := by
  simp only [pickA, List.getElem?_cons_succ, List.getElem?_cons_zero]
  rw [if_pos hoc]
 have hcel := bld_cells nid2 s.1.length 1
 have hntb : ∀ a b c, notTup (bld a b c) = true := fun a b c => by unfold bld; split <;> rfl
 have hil : i < s.2.length := (List.getElem?_eq_some_iff.1 hg2).1
 have y1 : iaddrA 1 (.sl rid2 0 s.2.length 1 s.2.length ex2) (.int .i64 (i : Int)) = some (.ptr rid2 i) := iaddr_sl1 hil
 have p1 := encR_at hg2
 have hfz : ∀ hp, frz hp (nP q f) = some (nP q f) := fun _ => rfl
 have k1 := Q0_acc (q := q) (f := f) (by omega) (hrl2 row (List.mem_of_getElem? hg2))
 refine vcE.forks (fun tm' hp' => hp' = hpD ∧ Rw q f mN sm i tm' ∧ tm' 13 = .sl rid2 0 s.2.length 1 s.2.length ex2) ?_ ?_
 ·repeat' (first | with_reducible exact exTs_nil | with_reducible refine exT_fork ?_ | (with_reducible show exT _ _ _ (Tr.take _ _) _ _ _; refine exT_take rfl (by simp (disch := first | assumption | omega) only [go_sem, ↓reduceIte, t12, r1, ↓pk1, Nat.reduceEqDiff, t15, t8, t13, t14, y1, a2, ↓pk2, a3, ↓p1, hfz, k1, nP_nid, ↓b1, ↓b2, ↓b3, ↓a1, hntb, hcel]; rfl) ?_) | (with_reducible show exTs _ _ _ (_ :: _) _ _ _; refine exTs_cons rfl (by simp (disch := first | assumption | omega) only [go_sem, ↓reduceIte, Nat.reduceEqDiff, hntb, hcel, ↓a1, r1T, ↓pk2, hraT, ↓p1, r1, hra]; rfl) ?_ ?_))
  all_goals (with_reducible refine exT_done ?_)
  all_goals refine ⟨rfl, ⟨?_, ?_, ?_, ?_, ?_, ?_⟩, ?_⟩
  all_goals simp only [upd_app, Nat.reduceEqDiff, ↓reduceIte, t2, t6, t8, t11, t12, t13, t14]
 rintro tm' hp' ⟨rfl, hv, u13⟩
 exact .inr ⟨rfl, rid2, ex2, _, _, fin ++ [(nid2, s.1)], accs ++ [accI (some (q, f)) row], s, hs, by simp [hfl], by simp [hal], by simp, rfl, hb3, hrl2, hg2, hn2, hv, u13⟩
end
theorem rBuild (p : List UInt8) (f : Bool) (most : Int) (hl : p.length ≤ 300) : PC Tryz.prog 8 [.str p, .bool f, .int .i64 most] (.tup [.agg (buildD p f most).1.c, .bool (buildD p f most).2]) := by
 refine pc_of (nidL_ok rfl) (calls_e hmG Q0_ok comp8 (by rfl) (by simp) ?_)
 have hnew := Q0_new f hl
 refine vcE.step (by simp (disch := first | assumption | omega) only [go_sem, ↓reduceIte]; rfl) ?_
 by_cases hbad : checkG p ≠ 0 ∨ most < 1 ∨ 256 < most
 ·have hF : buildD p f most = (noDfa, false) := by rw [buildD, if_pos hbad]
  rw [hF]
  refine vcE.step (by simp (disch := first | assumption | omega) only [go_sem, ↓reduceIte, reduceCtorEq, Nat.reduceEqDiff, hnew]; rfl) ?_
  by_cases h1 : checkG p = 0
  rotate_left
  ·refine vcE.seq (vcE.step (by simp (disch := first | assumption | omega) only [go_sem, ↓reduceIte, h1, decide_false, Nat.reduceEqDiff]; rfl) (vcE.condTrue (by simp only [evE, upd_app, Nat.reduceEqDiff, ↓reduceIte]) (vcE.mono (bd_bad rfl ?_) ?_)))
   ·simp only [upd_app, Nat.reduceEqDiff, ↓reduceIte]
   ·rintro e' tm' hp' ⟨rfl, h⟩
    exact h
  ·have h2 : most < 1 ∨ 256 < most := hbad.resolve_left (fun h => h h1)
   by_cases h3 : most < 1
   ·refine vcE.seq (vcE.step (by simp (disch := first | assumption | omega) only [go_sem, ↓reduceIte, h1, Nat.reduceEqDiff, h3]; rfl) (vcE.condTrue (by simp only [evE, upd_app, Nat.reduceEqDiff, ↓reduceIte]) (vcE.mono (bd_bad rfl ?_) ?_)))
    ·simp only [upd_app, Nat.reduceEqDiff, ↓reduceIte]
    ·rintro e' tm' hp' ⟨rfl, h⟩
     exact h
   ·have h4 : 256 < most := h2.resolve_left h3
    refine vcE.seq (vcE.step (by simp (disch := first | assumption | omega) only [go_sem, ↓reduceIte, h1, Nat.reduceEqDiff, h3, decide_false, h4]; rfl) (vcE.condTrue (by simp only [evE, upd_app, Nat.reduceEqDiff, ↓reduceIte]) (vcE.mono (bd_bad rfl ?_) ?_)))
    ·simp only [upd_app, Nat.reduceEqDiff, ↓reduceIte]
    ·rintro e' tm' hp' ⟨rfl, h⟩
     exact h
 have h1 : checkG p = 0 := Decidable.byContradiction fun h => hbad (.inl h)
 have h3 : ¬ most < 1 := fun h => hbad (.inr (.inl h))
 have h4 : ¬ 256 < most := fun h => hbad (.inr (.inr h))
 obtain ⟨mN, rfl⟩ : ∃ mN : Nat, most = (mN : Int) := ⟨most.toNat, by omega⟩
 have hF : buildD p f mN = match bldG (stD (newV p f)) (accI (newV p f)) (smD (patP (newV p f)) f) mN (mN + 1) 0 [startI (newV p f)] [] [] with
   | some (nx, ac) => (⟨clsL (patP (newV p f)) f, nx, ac⟩, true)
   | none => (noDfa, false) := by
  rw [buildD, if_neg hbad, Int.toNat_natCast]
  try rfl
 have hql := normB_len p
 have hqe := checkG_len h1
 have hq0 := normB_ne hqe.2
 have hnn := newV_n (f := f) h1
 have hny := newV_yes (f := f) h1
 rw [hny] at hF hnew hnn
 rw [h1] at hnew
 simp only [patP] at hF
 generalize normB p = q at *
 have hcl := Q0_classes (q := q) f (by omega)
 have hstart := Q0_start (f := f) hq0 (by omega)
 have hsml : (smD q f).length ≤ 2000 := by
  have := keysB_len q f
  rw [smD, List.length_cons]
  omega
 have hstl : (startI (some (q, f))).length ≤ 1000000 := Nat.le_trans (lstLen _ _) (by omega)
 generalize clsL q f = cls at *
 generalize smD q f = sm at *
 generalize startI (some (q, f)) = st0 at *
 have hnv : nV (some (q, f)) = nP q f := rfl
 rw [hnv] at hnew
 have hfz : ∀ hp, frz hp (nP q f) = some (nP q f) := fun _ => rfl
 have hfil : fillA [(0, 1), (1, 1), (2, 1)] [.nils, .nils, .nils] ([0].zip [encI.S cls]) = some [encI.S cls, .nils, .nils] := rfl
 have hst1 : storeA [some (.row 26 [.nils, .nils, .nils]), some (.row 26 [.nils, .nils, .nils])] 3 (.ptr 1 0) (.agg [encI.S cls, .nils, .nils]) = some [some (.row 26 [.nils, .nils, .nils]), some (.row 26 [encI.S cls, .nils, .nils])] := rfl
 have hceI : cellsA (encI.S st0) = [encI.S st0] := rfl
 refine vcE.step (by simp (disch := first | assumption | omega) only [go_sem, ↓reduceIte, reduceCtorEq, Nat.reduceEqDiff, hnew]; rfl) (vcE.step (by simp (disch := first | assumption | omega) only [go_sem, ↓reduceIte, Nat.reduceEqDiff, h3, decide_false, h4]; rfl) (vcE.step (by simp (disch := first | assumption | omega) only [go_sem, ↓reduceIte, Nat.reduceEqDiff, hfz, hcl, nP_nid]; rfl) (vcE.step (by simp (disch := first | assumption | omega) only [go_sem, ↓reduceIte, Nat.reduceEqDiff, ↓hfil, ↓hst1]; rfl) (vcE.step (by simp (disch := first | assumption | omega) only [go_sem, ↓reduceIte, Nat.reduceEqDiff, hfz, hstart, nP_nid, hceI, Nat.reduceAdd]; rfl) ?_))))
 have hb0 : Cs [some (.row 26 [.nils, .nils, .nils]), some (.row 26 [encI.S cls, .nils, .nils]), some (.row 22 [encI.S st0])] 2 [st0] 0 0 0 [] [] [] cls := by
  refine ⟨rfl, rfl, ?_, by simp⟩
  refine Pc2.nil ?_ _ _
  refine Pc2.perm (L := [(0, 22, []), (0, 4, []), (2, 22, encR.cs [st0])]) (Pc2.nil (Pc2.nil ⟨fun y hy => ?_, List.pairwise_singleton _ _⟩ _ _) _ _) ?_
  ·rw [List.mem_singleton] at hy
   rw [hy]
   exact .inr ⟨by simp, rfl⟩
  ·exact (List.Perm.cons _ (List.Perm.swap _ _ _)).trans (List.Perm.swap _ _ _)
 refine vcE.then _ (vcE.step (by simp (disch := first | assumption | omega) only [go_sem, ↓reduceIte]; rfl) (bd_outer (f := f) (sm := sm) (cls := cls) (mN := mN) (rows := [st0]) (ex := true) hq0 (by omega) (by omega) hsml (by simp) (fun r hr => by rw [List.mem_singleton] at hr; rw [hr]; exact hstl) (by simp; omega) hb0 ⟨?_, ?_, ?_, ?_, ?_, ?_⟩ ?_)) ?_
 ·rfl
 ·rfl
 ·rfl
 ·rfl
 ·rfl
 ·rfl
 ·rfl
 clear hnew hcl hst1 hfil hb0
 rintro e' tm hp (⟨rfl, hR, h⟩ | ⟨rfl, rid', rows', nxid, acid, fin, accs, hR, hb, t6, t12⟩)
 ·rw [hR] at hF
  rw [hF]
  exact h
 ·rw [hR] at hF
  rw [hF]
  have r0 := hb.r0
  have r1 := hb.r1
  have h0l := (List.getElem?_eq_some_iff.1 r0).1
  have hpk : pickA (some 3) [encI.S cls, bld nxid fin.length 1, bld acid accs.length 1] 0 = some (.agg [encI.S cls, bld nxid fin.length 1, bld acid accs.length 1]) := rfl
  have hst : storeA hp 3 (.ptr 0 0) (.agg [encI.S cls, bld nxid fin.length 1, bld acid accs.length 1]) = some (hp.set 0 (some (.row 26 [encI.S cls, bld nxid fin.length 1, bld acid accs.length 1]))) := by
   simp only [storeA, r0, cellsA]
   rfl
  refine vcE.ex (by simp (disch := first | assumption | omega) only [go_sem, ↓reduceIte, t12, r1, ↓hpk, Nat.reduceEqDiff, t6, ↓hst]; rfl) ?_
  refine ⟨.tup [.agg [encI.S cls, bld nxid fin.length 1, bld acid accs.length 1], .bool true], ?_, hb.frz (fun k hk => List.getElem?_set_ne (by omega))⟩
  simp only [resE, resEL, resE1, upd_app, Nat.reduceEqDiff, ↓reduceIte, t6, loadA, rowA, List.getElem?_set_self h0l]
  rfl
end
section
open Go Go.Proofs
def O0 : Tab := (Tab.none.addO 37 (.cons (.S encI) .nil) fun p => if p.1.length ≤ 1000000 then some (ownR encI 3 p.1) else none).addO 38 (.cons (.S encT) .nil) fun p => if p.1.length ≤ 1000000 then some (ownR encT 4 p.1) else none
theorem O0_ok : TabOk Tryz.prog O0 := by
 refine TabOk.addO (TabOk.addO (TabOk.none _) ?_) ?_
 ·intro p r h
  split at h
  ·cases h
   exact own_ok hmG encI comp37 (by omega) (by omega)
  ·cases h
 ·intro p r h
  split at h
  ·cases h
   exact own_ok hmG encT comp38 (by omega) (by omega)
  ·cases h
theorem O0_i (l : List Int) (h : l.length ≤ 1000000) : O0 37 [encI.S l] = some (.mk fun n => (ownV 1 l.length n, ownH 3 l.length (encI.cs l))) := by
 refine (Tab.addO_ne _ _ _ _ rfl _).trans ((Tab.addO_self _ _ (.cons (.S encI) .nil) _ (l, ())).trans ?_)
 rw [if_pos h]
 rfl
theorem O0_t (l : List Bool) (h : l.length ≤ 1000000) : O0 38 [encT.S l] = some (.mk fun n => (ownV 1 l.length n, ownH 4 l.length (encT.cs l))) := by
 refine (Tab.addO_self _ _ (.cons (.S encT) .nil) _ (l, ())).trans ?_
 rw [if_pos h]
 rfl
def finV (fin : List (Nat × Bool × List Int)) : List AV := fin.map fun q => .sl q.1 0 q.2.2.length 1 q.2.2.length q.2.1
theorem finV_len (fin : List (Nat × Bool × List Int)) : (finV fin).length = fin.length := by simp [finV]
structure Os (d : Dfa) (hp : HP) (k i1 i2 : Nat) (e1 e2 : Bool) (nxid : Nat) (fin : List (Nat × Bool × List Int)) : Prop where
 r0 : hp[0]? = some (some (.row 26 d.c))
 r1 : hp[1]? = some (some (.row 26 [.nils, .nils, .nils]))
 rk : hp[k]? = some (some (.row 26 [.sl i1 0 d.cls.length 1 d.cls.length e1, bld nxid fin.length 1, .sl i2 0 d.acc.length 1 d.acc.length e2]))
 c1 : hp[i1]? = some (some (.row 3 (encI.cs d.cls)))
 c2 : hp[i2]? = some (some (.row 4 (encT.cs d.acc)))
 nx : finV fin = [] ∨ hp[nxid]? = some (some (.row 22 (finV fin)))
 fi : ∀ q ∈ fin, hp[q.1]? = some (some (.row 3 (encI.cs q.2.2))) ∧ q.1 ≠ k
 ne : finV fin = [] ∨ (nxid ≠ 0 ∧ nxid ≠ 1 ∧ nxid ≠ k ∧ nxid ≠ i1 ∧ nxid ≠ i2 ∧ ∀ q ∈ fin, q.1 ≠ nxid)
 nk : k ≠ 0 ∧ k ≠ 1 ∧ k ≠ i1 ∧ k ≠ i2
theorem ownV_new (hp : HP) (l : List Int) : ∃ (id : Nat) (ex : Bool), ownV 1 l.length hp.length = .sl id 0 l.length 1 l.length ex ∧ hp.length ≤ id ∧ (hp ++ ownH 3 l.length (encI.cs l))[id]? = some (some (.row 3 (encI.cs l))) := by
 unfold ownV ownH
 by_cases h0 : l.length = 0
 ·have := List.eq_nil_of_length_eq_zero h0
  subst this
  exact ⟨hp.length, true, rfl, Nat.le_refl _, by simp [Enc.cs]⟩
 ·rw [if_neg h0, if_neg h0]
  exact ⟨hp.length + 1, false, rfl, by omega, by simp⟩
section
variable {d : Dfa} {hp : HP} {k i1 i2 nxid : Nat} {e1 e2 : Bool} {fin : List (Nat × Bool × List Int)}
theorem Os.more (h : Os d hp k i1 i2 e1 e2 nxid fin) (l : List Int) (hf : fin.length ≤ 1000000) : ∃ id ex hpA hpB, ownV 1 l.length hp.length = .sl id 0 l.length 1 l.length ex ∧
  appA 22 1 24 ((hp ++ ownH 3 l.length (encI.cs l)) ++ [some (.row 22 [.sl id 0 l.length 1 l.length ex])]) (bld nxid fin.length 1) (.sl (hp ++ ownH 3 l.length (encI.cs l)).length 0 1 1 1 true) = some (bld ((hp ++ ownH 3 l.length (encI.cs l)).length + 1) (fin.length + 1) 1, hpA) ∧ storeA hpA 1 (.ptr k 1) (bld ((hp ++ ownH 3 l.length (encI.cs l)).length + 1) (fin.length + 1) 1) = some hpB ∧ Os d hpB k i1 i2 e1 e2 ((hp ++ ownH 3 l.length (encI.cs l)).length + 1) (fin ++ [(id, ex, l)]) := by
 obtain ⟨id, ex, hv, hid, hat⟩ := ownV_new hp l
 obtain ⟨r0, r1, rk, c1, c2, nx, fi, ne, ⟨k0, k1, k2, k3⟩⟩ := h
 have g0 := get_lt r0
 have gk := get_lt rk
 have gc1 := get_lt c1
 have gc2 := get_lt c2
 have hkeep : ∀ j, j < hp.length → (hp ++ ownH 3 l.length (encI.cs l))[j]? = hp[j]? := fun j hj => List.getElem?_append_left hj
 have hle : hp.length ≤ (hp ++ ownH 3 l.length (encI.cs l)).length := by rw [List.length_append]; omega
 have hidl := get_lt hat
 generalize hp ++ ownH 3 l.length (encI.cs l) = hp1 at *
 have hk1 : ∀ j, j < hp1.length → (hp1 ++ [some (Blk.row 22 [AV.sl id 0 l.length 1 l.length ex])])[j]? = hp1[j]? := fun j hj => List.getElem?_append_left hj
 obtain ⟨hpA, ha, hn, ho, hl'⟩ := app_raw (hp := hp1 ++ [some (Blk.row 22 [AV.sl id 0 l.length 1 l.length ex])]) (id := nxid) (e := 22) (cs := finV fin) (ms := [AV.sl id 0 l.length 1 l.length ex]) (bytes := 24) (x := .sl hp1.length 0 1 1 1 true) (nx.imp (fun h => h) fun h => by rw [hk1 _ (by have := get_lt h; omega), hkeep _ (get_lt h)]; exact h) src_cell (by simp) (by rw [finV_len]; simp; omega) (by rw [finV_len]; simp; omega)
 rw [finV_len] at ha
 rw [List.length_append, List.length_singleton] at hn hl' ho
 rw [List.length_append, List.length_singleton, List.length_append, List.length_singleton, finV_len] at ha
 have hkp : ∀ j, j < hp1.length → (finV fin = [] ∨ j ≠ nxid) → hpA[j]? = hp1[j]? := fun j hj hne => by rw [ho j (by omega) hne, hk1 j hj]
 have hko : ∀ j, j < hp.length → (finV fin = [] ∨ j ≠ nxid) → hpA[j]? = hp[j]? := fun j hj hne => by rw [hkp j (by omega) hne, hkeep j hj]
 have hAk := (hko k gk (ne.imp (fun h => h) fun h => Ne.symm h.2.2.1)).trans rk
 have s1 := bld_store (id := hp1.length + 1) (n := fin.length + 1) (off := 1) hAk (by simp)
 refine ⟨id, ex, hpA, _, hv, ha, s1, ?_⟩
 have ks : ∀ j, j ≠ k → (hpA.set k (some (Blk.row 26 (([AV.sl i1 0 d.cls.length 1 d.cls.length e1, bld nxid fin.length 1, .sl i2 0 d.acc.length 1 d.acc.length e2] : List AV).set 1 (bld (hp1.length + 1) (fin.length + 1) 1)))))[j]? = hpA[j]? := fun j hj => List.getElem?_set_ne (Ne.symm hj)
 have hfn : finV (fin ++ [(id, ex, l)]) = finV fin ++ [AV.sl id 0 l.length 1 l.length ex] := by simp [finV]
 have g1 := get_lt r1
 refine ⟨?_, ?_, ?_, ?_, ?_, ?_, ?_, ?_, k0, k1, k2, k3⟩
 ·rw [ks 0 (Ne.symm k0), hko 0 g0 (ne.imp (fun h => h) fun h => Ne.symm h.1)]
  exact r0
 ·rw [ks 1 (Ne.symm k1), hko 1 g1 (ne.imp (fun h => h) fun h => Ne.symm h.2.1)]
  exact r1
 ·rw [List.getElem?_set_self (get_lt hAk), List.length_append, List.length_singleton]
  rfl
 ·rw [ks i1 (Ne.symm k2), hko i1 gc1 (ne.imp (fun h => h) fun h => Ne.symm h.2.2.2.1)]
  exact c1
 ·rw [ks i2 (Ne.symm k3), hko i2 gc2 (ne.imp (fun h => h) fun h => Ne.symm h.2.2.2.2.1)]
  exact c2
 ·right
  rw [ks _ (by omega), hfn]
  exact hn
 ·intro q hq
  rcases List.mem_append.1 hq with hq | hq
  ·obtain ⟨f1, f2⟩ := fi q hq
   refine ⟨?_, f2⟩
   rw [ks _ f2, hko q.1 (get_lt f1) (ne.imp (fun h => h) fun h => h.2.2.2.2.2 q hq)]
   exact f1
  ·rw [List.mem_singleton] at hq
   subst hq
   refine ⟨?_, by simp only; omega⟩
   rw [ks _ (by simp only; omega), hkp id hidl (nx.imp (fun h => h) fun h => by have := get_lt h; omega)]
   exact hat
 ·right
  refine ⟨by omega, by omega, by omega, by omega, by omega, ?_⟩
  intro q hq
  rcases List.mem_append.1 hq with hq | hq
  ·have := get_lt (fi q hq).1
   omega
  ·rw [List.mem_singleton] at hq
   subst hq
   simp only
   omega
theorem finV_frz {hp' : HP} : ∀ (fin : List (Nat × Bool × List Int)), (∀ q ∈ fin, hp'[q.1]? = some (some (.row 3 (encI.cs q.2.2)))) → FrzL hp' (finV fin) (encR.cs (fin.map (·.2.2)))
 | [], _ => FrzL.nil _
 | q :: fin, hat => FrzL.cons (frz_ok (encI.sl_frz (hat q (List.mem_cons_self ..)))) (finV_frz fin fun q hq => hat q (List.mem_cons_of_mem _ hq))
theorem Os.frz (h : Os d hp k i1 i2 e1 e2 nxid fin) {hp' : HP} (hk : ∀ j, j ≠ 1 → hp'[j]? = hp[j]?) (hf : fin.map (·.2.2) = d.nxt) : Frz hp' (.agg [.sl i1 0 d.cls.length 1 d.cls.length e1, bld nxid fin.length 1, .sl i2 0 d.acc.length 1 d.acc.length e2]) (.agg d.c) := by
 obtain ⟨r0, r1, rk, c1, c2, nx, fi, ne, ⟨k0, k1, k2, k3⟩⟩ := h
 have n1 : ∀ (j : Nat) (e : TypeId) (cs : List AV), hp[j]? = some (some (.row e cs)) → e ≠ 26 → j ≠ 1 := by
  intro j e cs hj he hc
  rw [hc, r1] at hj
  cases hj
  exact he rfl
 refine Frz.agg (FrzL.cons ?_ (FrzL.cons ?_ (FrzL.cons ?_ (FrzL.nil _))))
 ·exact frz_ok (encI.sl_frz (by rw [hk i1 (n1 _ _ _ c1 (by decide))]; exact c1))
 ·rw [bld]
  split
  ·rename_i h0
   have : fin = [] := List.eq_nil_of_length_eq_zero h0
   subst this
   rw [show d.nxt = [] from hf.symm]
   exact Frz.nils' _
  ·rename_i h0
   have h1 := nx.resolve_left (fun e => h0 (by rw [← finV_len, e]; rfl))
   have := Frz.sl (off := 0) (lo := fin.length) (ex := false) (len := fin.length) (sz := 1) (hk nxid (n1 _ _ _ h1 (by decide)) ▸ h1) (by rw [finV_len]; omega) (as' := encR.cs (fin.map (·.2.2))) (by
    rw [List.drop_zero, List.take_of_length_le (by rw [finV_len]; omega)]
    exact finV_frz fin fun q hq => by rw [hk q.1 (n1 _ _ _ (fi q hq).1 (by decide))]; exact (fi q hq).1)
   rw [← hf]
   simpa only [Enc.S, List.length_map] using this
 ·exact frz_ok (encT.sl_frz (by rw [hk i2 (n1 _ _ _ c2 (by decide))]; exact c2))
end
theorem pOwnDfa (d : Dfa) (hd : d.small) : PC Tryz.prog 13 [.agg d.c] (.agg d.c) := by
 refine pc_of (nidL_ok d.a_nid) (calls_e hmG O0_ok comp13 (by rfl) (by simp) ?_)
 obtain ⟨s1, s2, s3, s4⟩ := hd
 have q0 : pickA none d.c 0 = some (encI.S d.cls) := rfl
 have q1 : pickA none d.c (0 + 1) = some (encR.S d.nxt) := rfl
 have q2 : pickA none d.c (0 + 2) = some (encT.S d.acc) := rfl
 have qc : cellsA (.agg d.c) = d.c := rfl
 have k1 := O0_i d.cls s1
 have k2 := O0_t d.acc s3
 refine vcE.step (by simp (disch := first | assumption | omega) only [go_sem, ↓reduceIte, qc]; rfl) ?_
 refine vcE.then (fun e tm hp => e = .normal ∧ ∃ (k i1 i2 : Nat) (e1 e2 : Bool), tm 3 = .ptr k 0 ∧ Os d hp k i1 i2 e1 e2 0 [] ∧ tm 1 = .ptr 0 0 ∧ tm 2 = .ptr 1 0) ?_ ?_
 ·clear s2 s4 q1
  obtain ⟨cls, nxt, acc⟩ := d
  simp only at k1 k2 q0 q2 s1 s3
  have hbs : ∀ (i1 l1 i2 l2 : Nat) (x1 x2 : Bool), fillA [(0, 1), (1, 1), (2, 1)] [.nils, .nils, .nils] (([0, 2] : List Nat).zip [.sl i1 0 l1 1 l1 x1, .sl i2 0 l2 1 l2 x2]) = some [.sl i1 0 l1 1 l1 x1, .nils, .sl i2 0 l2 1 l2 x2] := fun _ _ _ _ _ _ => rfl
  have hS2 : ∀ (x0 x1 : Option Blk) (l : HP) (a b c : AV), storeA (x0 :: x1 :: some (.row 26 [.nils, .nils, .nils]) :: l) 3 (.ptr 2 0) (.agg [a, b, c]) = some (x0 :: x1 :: some (.row 26 [a, b, c]) :: l) := fun _ _ _ _ _ _ => rfl
  have hS3 : ∀ (x0 x1 x2 : Option Blk) (l : HP) (a b c : AV), storeA (x0 :: x1 :: x2 :: some (.row 26 [.nils, .nils, .nils]) :: l) 3 (.ptr 3 0) (.agg [a, b, c]) = some (x0 :: x1 :: x2 :: some (.row 26 [a, b, c]) :: l) := fun _ _ _ _ _ _ _ => rfl
  have hS4 : ∀ (x0 x1 x2 x3 : Option Blk) (l : HP) (a b c : AV), storeA (x0 :: x1 :: x2 :: x3 :: some (.row 26 [.nils, .nils, .nils]) :: l) 3 (.ptr 4 0) (.agg [a, b, c]) = some (x0 :: x1 :: x2 :: x3 :: some (.row 26 [a, b, c]) :: l) := fun _ _ _ _ _ _ _ _ => rfl
  have hS5 : ∀ (x0 x1 x2 x3 x4 : Option Blk) (l : HP) (a b c : AV), storeA (x0 :: x1 :: x2 :: x3 :: x4 :: some (.row 26 [.nils, .nils, .nils]) :: l) 3 (.ptr 5 0) (.agg [a, b, c]) = some (x0 :: x1 :: x2 :: x3 :: x4 :: some (.row 26 [a, b, c]) :: l) := fun _ _ _ _ _ _ _ _ _ => rfl
  have hS6 : ∀ (x0 x1 x2 x3 x4 x5 : Option Blk) (l : HP) (a b c : AV), storeA (x0 :: x1 :: x2 :: x3 :: x4 :: x5 :: some (.row 26 [.nils, .nils, .nils]) :: l) 3 (.ptr 6 0) (.agg [a, b, c]) = some (x0 :: x1 :: x2 :: x3 :: x4 :: x5 :: some (.row 26 [a, b, c]) :: l) := fun _ _ _ _ _ _ _ _ _ _ => rfl
  refine vcE.forks (fun tm hp => ∃ (k i1 i2 : Nat) (e1 e2 : Bool), tm 3 = .ptr k 0 ∧ Os ⟨cls, nxt, acc⟩ hp k i1 i2 e1 e2 0 [] ∧ tm 1 = .ptr 0 0 ∧ tm 2 = .ptr 1 0) ?_ (fun tm hp h => ⟨rfl, h⟩)
  cases cls with
  | nil =>
   simp only [ownV, ownH, List.length_nil, if_true] at k1
   cases acc with
   | nil =>
    simp only [ownV, ownH, List.length_nil, if_true] at k2
    repeat' (first | with_reducible exact exTs_nil | with_reducible refine exT_fork ?_ | (with_reducible show exT _ _ _ (Tr.take _ _) _ _ _; refine exT_take rfl (by simp (disch := first | assumption | omega) only [go_sem, ↓reduceIte, Nat.reduceEqDiff, ↓q0, ↓q2, Nat.reduceAdd, ↓hbs, ↓hS4, k2, ↓hS3, k1, ↓hS2]; rfl) ?_) | (with_reducible show exTs _ _ _ (_ :: _) _ _ _; refine exTs_cons rfl (by simp (disch := first | assumption | omega) only [go_sem, ↓reduceIte, Nat.reduceEqDiff, k1, Nat.reduceAdd, k2, ↓q2]; rfl) ?_ ?_))
    all_goals (with_reducible refine exT_done ?_)
    all_goals exact ⟨_, _, _, _, _, by simp only [upd_app, Nat.reduceEqDiff, ↓reduceIte]; rfl, ⟨rfl, rfl, rfl, rfl, rfl, .inl rfl, fun q hq => absurd hq List.not_mem_nil, .inl rfl, by decide⟩, by simp only [upd_app, Nat.reduceEqDiff, ↓reduceIte], by simp only [upd_app, Nat.reduceEqDiff, ↓reduceIte]⟩
   | cons b acc =>
    simp only [ownV, ownH, List.length_cons, Nat.add_eq_zero_iff, Nat.one_ne_zero, and_false, if_false] at k2
    repeat' (first | with_reducible exact exTs_nil | with_reducible refine exT_fork ?_ | (with_reducible show exT _ _ _ (Tr.take _ _) _ _ _; refine exT_take rfl (by simp (disch := first | assumption | omega) only [go_sem, ↓reduceIte, Nat.reduceEqDiff, ↓q0, ↓q2, Nat.reduceAdd, ↓hbs, ↓hS5, k2, ↓hS3, k1, ↓hS2]; rfl) ?_) | (with_reducible show exTs _ _ _ (_ :: _) _ _ _; refine exTs_cons rfl (by simp (disch := first | assumption | omega) only [go_sem, ↓reduceIte, Nat.reduceEqDiff, k1, Nat.reduceAdd, k2, ↓q2]; rfl) ?_ ?_))
    all_goals (with_reducible refine exT_done ?_)
    all_goals exact ⟨_, _, _, _, _, by simp only [upd_app, Nat.reduceEqDiff, ↓reduceIte]; rfl, ⟨rfl, rfl, rfl, rfl, rfl, .inl rfl, fun q hq => absurd hq List.not_mem_nil, .inl rfl, by decide⟩, by simp only [upd_app, Nat.reduceEqDiff, ↓reduceIte], by simp only [upd_app, Nat.reduceEqDiff, ↓reduceIte]⟩
  | cons a cls =>
   simp only [ownV, ownH, List.length_cons, Nat.add_eq_zero_iff, Nat.one_ne_zero, and_false, if_false] at k1
   cases acc with
   | nil =>
    simp only [ownV, ownH, List.length_nil, if_true] at k2
    repeat' (first | with_reducible exact exTs_nil | with_reducible refine exT_fork ?_ | (with_reducible show exT _ _ _ (Tr.take _ _) _ _ _; refine exT_take rfl (by simp (disch := first | assumption | omega) only [go_sem, ↓reduceIte, Nat.reduceEqDiff, ↓q0, ↓q2, Nat.reduceAdd, ↓hbs, ↓hS5, k2, ↓hS4, k1, ↓hS2]; rfl) ?_) | (with_reducible show exTs _ _ _ (_ :: _) _ _ _; refine exTs_cons rfl (by simp (disch := first | assumption | omega) only [go_sem, ↓reduceIte, Nat.reduceEqDiff, k1, Nat.reduceAdd, k2, ↓q2]; rfl) ?_ ?_))
    all_goals (with_reducible refine exT_done ?_)
    all_goals exact ⟨_, _, _, _, _, by simp only [upd_app, Nat.reduceEqDiff, ↓reduceIte]; rfl, ⟨rfl, rfl, rfl, rfl, rfl, .inl rfl, fun q hq => absurd hq List.not_mem_nil, .inl rfl, by decide⟩, by simp only [upd_app, Nat.reduceEqDiff, ↓reduceIte], by simp only [upd_app, Nat.reduceEqDiff, ↓reduceIte]⟩
   | cons b acc =>
    simp only [ownV, ownH, List.length_cons, Nat.add_eq_zero_iff, Nat.one_ne_zero, and_false, if_false] at k2
    repeat' (first | with_reducible exact exTs_nil | with_reducible refine exT_fork ?_ | (with_reducible show exT _ _ _ (Tr.take _ _) _ _ _; refine exT_take rfl (by simp (disch := first | assumption | omega) only [go_sem, ↓reduceIte, Nat.reduceEqDiff, ↓q0, ↓q2, Nat.reduceAdd, ↓hbs, ↓hS6, k2, ↓hS4, k1, ↓hS2]; rfl) ?_) | (with_reducible show exTs _ _ _ (_ :: _) _ _ _; refine exTs_cons rfl (by simp (disch := first | assumption | omega) only [go_sem, ↓reduceIte, Nat.reduceEqDiff, k1, Nat.reduceAdd, k2, ↓q2]; rfl) ?_ ?_))
    all_goals (with_reducible refine exT_done ?_)
    all_goals exact ⟨_, _, _, _, _, by simp only [upd_app, Nat.reduceEqDiff, ↓reduceIte]; rfl, ⟨rfl, rfl, rfl, rfl, rfl, .inl rfl, fun q hq => absurd hq List.not_mem_nil, .inl rfl, by decide⟩, by simp only [upd_app, Nat.reduceEqDiff, ↓reduceIte], by simp only [upd_app, Nat.reduceEqDiff, ↓reduceIte]⟩
 rintro e tm hp ⟨rfl, k, i1, i2, e1, e2, t3, h0, t1, t2⟩
 refine vcE.then (fun e tm hp => e = .normal ∧ ∃ (nxid : Nat) (fin : List (Nat × Bool × List Int)), fin.map (·.2.2) = d.nxt ∧ tm 3 = .ptr k 0 ∧ Os d hp k i1 i2 e1 e2 nxid fin ∧ tm 2 = .ptr 1 0) ?_ ?_
 ·refine vcE.step (by simp (disch := first | assumption | omega) only [go_sem, ↓reduceIte]; rfl) (vcE.block (vcE.count (by intro l tm hp h; simp at h)
   (fun i tm hp => ∃ (nxid : Nat) (fin : List (Nat × Bool × List Int)), fin.map (·.2.2) = d.nxt.take i ∧ tm 3 = .ptr k 0 ∧ Os d hp k i1 i2 e1 e2 nxid fin ∧ tm 1 = .ptr 0 0 ∧ tm 2 = .ptr 1 0 ∧ tm 4 = .int .i64 i) d.nxt.length ⟨0, [], rfl, ?_, h0, ?_, ?_, rfl⟩ ?_ ?_))
  ·simp only [upd_app, Nat.reduceEqDiff, ↓reduceIte, t3]
  ·simp only [upd_app, Nat.reduceEqDiff, ↓reduceIte, t1]
  ·simp only [upd_app, Nat.reduceEqDiff, ↓reduceIte, t2]
  ·clear t1 t2 t3 h0
   rintro i tm hp hi ⟨nxid, fin, hfm, t3, h, t1, t2, t4⟩
   obtain ⟨r, hr⟩ : ∃ r, d.nxt[i]? = some r := ⟨_, List.getElem?_eq_getElem hi⟩
   have hfl : fin.length = i := by
    have := congrArg List.length hfm
    rw [List.length_map, List.length_take] at this
    omega
   have y1 : iaddrA 1 (encR.S d.nxt) (.int .i64 i) = some (.fptr (encR.cs d.nxt) (i * 1)) := encR.S_iaddr hi
   rw [Nat.mul_one] at y1
   have p1 := encR_at hr
   have k3 := O0_i r (s4 r (List.mem_of_getElem? hr))
   have hw : IntKind.wrap .i64 ((i : Int) + 1) = ((i + 1 : Nat) : Int) := wrap_i64 (by omega) (by omega)
   have hlt : (i : Int) < (d.nxt.length : Int) := by omega
   obtain ⟨id, ex, hpA, hpB, a1, a2, a3, a4⟩ := h.more r (by omega)
   have r0 := h.r0
   have rk := h.rk
   have hob := bld_one nxid fin.length 1
   have hntb : ∀ a b c, notTup (bld a b c) = true := fun a b c => by unfold bld; split <;> rfl
   have pk1 : pickA none [AV.sl i1 0 d.cls.length 1 d.cls.length e1, bld nxid fin.length 1, .sl i2 0 d.acc.length 1 d.acc.length e2] 1 = some (bld nxid fin.length 1) := by
    simp only [pickA, List.getElem?_cons_succ, List.getElem?_cons_zero]
    rw [if_pos hob]
   refine vcE.ex (by simp (disch := first | assumption | omega) only [go_sem, ↓reduceIte, t4, Nat.reduceEqDiff, t1, r0, ↓q1, hlt, t3, rk, ↓pk1, y1, ↓p1, k3, a1, ↓a2, ↓a3, hw]; rfl) ?_
   refine ⟨_, fin ++ [(id, ex, r)], ?_, ?_, a4, ?_, ?_, ?_⟩
   ·rw [List.map_append, hfm, List.take_add_one, hr]
    rfl
   ·simp only [upd_app, Nat.reduceEqDiff, ↓reduceIte, t3]
   ·simp only [upd_app, Nat.reduceEqDiff, ↓reduceIte, t1]
   ·simp only [upd_app, Nat.reduceEqDiff, ↓reduceIte, t2]
   ·simp only [upd_app, Nat.reduceEqDiff, ↓reduceIte]
  ·clear t1 t2 t3 h0
   rintro tm hp ⟨nxid, fin, hfm, t3, h, t1, t2, t4⟩
   rw [List.take_length] at hfm
   have r0 := h.r0
   have hlt : ¬ (d.nxt.length : Int) < (d.nxt.length : Int) := by omega
   refine vcE.ex (by simp (disch := first | assumption | omega) only [go_sem, ↓reduceIte, t4, Nat.reduceEqDiff, t1, r0, ↓q1, hlt, decide_false]; rfl) ?_
   refine ⟨rfl, nxid, fin, hfm, ?_, h, ?_⟩
   ·simp only [upd_app, Nat.reduceEqDiff, ↓reduceIte, t3]
   ·simp only [upd_app, Nat.reduceEqDiff, ↓reduceIte, t2]
 clear t1 t2 t3 h0
 rintro e tm hp ⟨rfl, nxid, fin, hfm, t3, h, t2⟩
 have rk := h.rk
 have r1 := h.r1
 have h1l := get_lt r1
 have hpk : pickA (some 3) [AV.sl i1 0 d.cls.length 1 d.cls.length e1, bld nxid fin.length 1, .sl i2 0 d.acc.length 1 d.acc.length e2] 0 = some (.agg [AV.sl i1 0 d.cls.length 1 d.cls.length e1, bld nxid fin.length 1, .sl i2 0 d.acc.length 1 d.acc.length e2]) := rfl
 have hst : storeA hp 3 (.ptr 1 0) (.agg [AV.sl i1 0 d.cls.length 1 d.cls.length e1, bld nxid fin.length 1, .sl i2 0 d.acc.length 1 d.acc.length e2]) = some (hp.set 1 (some (.row 26 [AV.sl i1 0 d.cls.length 1 d.cls.length e1, bld nxid fin.length 1, .sl i2 0 d.acc.length 1 d.acc.length e2]))) := by
  simp only [storeA, r1, cellsA]
  rfl
 refine vcE.ex (by simp (disch := first | assumption | omega) only [go_sem, ↓reduceIte, t3, rk, ↓hpk, Nat.reduceEqDiff, t2, ↓hst]; rfl) ?_
 refine ⟨_, ?_, h.frz (fun j hj => List.getElem?_set_ne (Ne.symm hj)) hfm⟩
 simp only [resE, resEL, resE1, upd_app, Nat.reduceEqDiff, ↓reduceIte, t2, loadA, rowA, List.getElem?_set_self h1l]
 rfl
end
section
open Go Go.Proofs
theorem nextF_one (st : List Int → Int → List Int) (row : List Int) : ∀ (sm : List Int) (s : List Int × List (List Int)), (sm.foldl (nxF st row) s).1.length = s.1.length + sm.length
 | [], s => rfl
 | c :: sm, s => by
  rw [List.foldl_cons, nextF_one st row sm, List.length_cons]
  unfold nxF
  split <;> simp only [List.length_append, List.length_singleton] <;> omega
theorem bldF_rows {st : List Int → Int → List Int} {ac : List Int → Bool} {sm : List Int} {most B : Nat} (hB : sm.length ≤ B) : ∀ {k i : Nat} {rows nx : List (List Int)} {acs : List Bool} {r : List (List Int) × List Bool}, bldF st ac sm most k i rows nx acs = some r → (∀ x ∈ nx, x.length ≤ B) → ∀ x ∈ r.1, x.length ≤ B
 | 0, i, rows, nx, acs, r, h, _ => by cases h
 | k + 1, i, rows, nx, acs, r, h, hx => by
  rw [bldF] at h
  cases hg : rows[i]? with
  | none =>
   rw [hg] at h
   cases h
   exact hx
  | some row =>
   rw [hg] at h
   by_cases hc : rows.length > most
   ·simp only [if_pos hc] at h
    cases h
   ·simp only [if_neg hc] at h
    refine bldF_rows hB h ?_
    intro x hxx
    rcases List.mem_append.1 hxx with h1 | h1
    ·exact hx x h1
    ·rw [List.mem_singleton] at h1
     have := nextF_one st row sm ([], rows)
     rw [h1, nextF, this]
     simpa using hB
theorem build_small {p : List UInt8} {f : Bool} {most : Int} (hp : (patP (newV p f)).length ≤ 1000) : (buildF p f most).1.small := by
 cases h : (buildF p f most).2 with
 | false =>
  rw [buildF_no h]
  exact ⟨Nat.zero_le _, Nat.zero_le _, Nat.zero_le _, fun r hr => by cases hr⟩
 | true =>
  obtain ⟨r, h1, h2, h3, h4, h5⟩ := buildF_yes h
  have hle := bldF_le h4 rfl rfl (Nat.zero_le _) (Nat.zero_le _)
  have hsm := someL_len (patP (newV p f)) f
  have hr := bldF_rows (B := 1000000) (by omega) h4 (fun x hx => by cases hx)
  rw [h5]
  refine ⟨?_, ?_, ?_, hr⟩
  ·simp only
   rw [clsL_len]
   omega
  ·simp only
   omega
  ·simp only
   omega
theorem pat_le {p : List UInt8} {f : Bool} (h : p.length ≤ 300) : (patP (newV p f)).length ≤ 1000 := by
 unfold newV
 split
 ·have := normB_len p
  simp only [patP]
  omega
 ·exact Nat.zero_le _
end
section
open Go Go.Proofs
theorem keysAB : keysB [97, 98] false = [97, 98] := by
 have h1 : namedB [97, 98] false = [97, 98] := by decide
 have h2 : sortB [97, 98] = [97, 98] := List.mergeSort_of_pairwise (by decide)
 rw [keysB, h1, h2]
 decide +kernel
def dAB : Dfa := ⟨clsTo [97, 98] false 256, [[1, 2, 1], [1, 1, 1], [1, 1, 3], [1, 1, 1]], [false, false, false, true]⟩
theorem buildAB : buildF [97, 98] false 10 = (dAB, true) := by
 have hn : newV [97, 98] false = some ([97, 98], false) := by decide +kernel
 have hz : zeroTo [97, 98] false 256 = 255 := by decide +kernel
 have hs : someL [97, 98] false = [255, 97, 98] := by
  rw [someL, keysAB, hz]
  rfl
 have hr : bldF (stepI (some ([97, 98], false))) (accI (some ([97, 98], false))) [255, 97, 98] 10 11 0 [startI (some ([97, 98], false))] [] [] = some ([[1, 2, 1], [1, 1, 1], [1, 1, 3], [1, 1, 1]], [false, false, false, true]) := by decide +kernel
 have hb : buildR [97, 98] false 10 = some ([[1, 2, 1], [1, 1, 1], [1, 1, 3], [1, 1, 1]], [false, false, false, true]) := by
  unfold buildR
  rw [hn]
  simp only [patP]
  rw [hs]
  exact hr
 unfold buildF
 rw [if_neg (by decide +kernel), show (10 : Int).toNat = 10 from rfl, hb, hn]
 simp only [patP, clsL, keysAB]
 rfl
theorem runAB : dAB.run [97, 98] = true ∧ dAB.run [97] = false := by
 constructor <;> decide +kernel
theorem fitsAB : dAB.fits = true := by decide +kernel
def X0 : Tab := (Tab.none.addO 7 (.cons .str (.cons .bool (.cons .i64 .nil))) fun p => if p.1.length ≤ 300 ∧ (patP (newV p.1 p.2.1)).length ≤ 1000 then some (.rd true (.tup [.agg (buildF p.1 p.2.1 p.2.2.1).1.c, .bool (buildF p.1 p.2.1 p.2.2.1).2])) else none).addO 12 (.cons .dfa (.cons .str .nil)) fun p => if p.1.fits = true ∧ p.2.1.length ≤ roomy then some (.rd true (.bool (p.1.run p.2.1))) else none
theorem X0_ok : TabOk Tryz.prog X0 := by
 refine TabOk.addO (TabOk.addO (TabOk.none _) ?_) ?_
 ·intro p r h
  split at h
  ·rename_i hv; cases h; exact pBuild p.1 p.2.1 p.2.2.1 hv.1 hv.2
  ·cases h
 ·intro p r h
  split at h
  ·rename_i hv; cases h; exact pDRun p.1 hv.1 p.2.1 hv.2
  ·cases h
theorem pLivesS : PCF Tryz.prog 4 [] (.bool true) := by
 refine pcf_e hmG X0_ok comp4 (by decide) (by simp) (nidL_ok rfl) ?_
 have e1 : X0 7 [.str [97, 98], .bool false, .int .i64 10] = some (.rd true (.tup [.agg dAB.c, .bool true])) := by
  have this : X0 7 [.str [97, 98], .bool false, .int .i64 10] = some (.rd true (.tup [.agg (buildF [97, 98] false 10).1.c, .bool (buildF [97, 98] false 10).2])) := (Tab.addO_ne _ _ _ _ rfl _).trans ((Tab.addO_self _ _ (.cons .str (.cons .bool (.cons .i64 .nil))) _ ([97, 98], false, 10, ())).trans (if_pos ⟨by decide, by decide +kernel⟩))
  rw [buildAB] at this
  exact this
 have e2 : X0 12 [.agg dAB.c, .str [97, 98]] = some (.rd true (.bool true)) := by
  have this : X0 12 [.agg dAB.c, .str [97, 98]] = some (.rd true (.bool (dAB.run [97, 98]))) := (Tab.addO_self _ _ (.cons .dfa (.cons .str .nil)) _ (dAB, [97, 98], ())).trans (if_pos ⟨fitsAB, by decide⟩)
  rw [runAB.1] at this
  exact this
 have e3 : X0 12 [.agg dAB.c, .str [97]] = some (.rd true (.bool false)) := by
  have this : X0 12 [.agg dAB.c, .str [97]] = some (.rd true (.bool (dAB.run [97]))) := (Tab.addO_self _ _ (.cons .dfa (.cons .str .nil)) _ (dAB, [97], ())).trans (if_pos ⟨fitsAB, by decide⟩)
  rw [runAB.2] at this
  exact this
 have hlen : ∀ hp, lenA hp (encR.S dAB.nxt) = some (.int .i64 4) := fun hp => rfl
 have hlf : lenFits .slice (encR.S dAB.nxt) = true := rfl
 have cf : ∀ hp, frz hp (.agg dAB.c) = some (.agg dAB.c) := fun hp => by simp only [frz, dAB.c_frz]
 have cp : pickA (some 3) dAB.c 0 = some (.agg dAB.c) := rfl
 have cp1 : pickA none dAB.c 1 = some (encR.S dAB.nxt) := rfl
 have hst : storeA [some (.row 26 [.nils, .nils, .nils])] 3 (.ptr 0 0) (.agg dAB.c) = some [some (.row 26 dAB.c)] := rfl
 generalize dAB.c = dc at *
 generalize encR.S dAB.nxt = dn at *
 refine vcE.step (by simp (disch := first | assumption | omega) only [go_sem, ↓reduceIte]; rfl) (vcE.step (by simp (disch := first | assumption | omega) only [go_sem, ↓reduceIte, e1, Nat.reduceEqDiff, ↓hst]; rfl) ?_)
 refine vcE.ex (by simp (disch := first | assumption | omega) only [go_sem, ↓reduceIte, Nat.reduceEqDiff, ↓cp1, hlf, ↓hlen, ↓cp, ↓cf, e2, e3]; rfl) ?_
 exact ⟨_, rfl, rfl⟩
end
section
open Go Go.Proofs
def encS : Enc (List UInt8) where
 c s := [.str s]
 sz := 1
 pos := by omega
 len _ := rfl
 nd _ := rfl
 ip := true
 pl _ _ := rfl
 fz _ _ := rfl
 dec := fun
  | [.str s] => some s
  | _ => none
 dec_c _ := rfl
 dec_some cs a h := by
  split at h
  ·cases h; rfl
  ·cases h
def lightB (ts : List (List UInt8)) (n most : Int) : Bool := ts.all (fun s => decide ((s.length : Int) ≤ most)) && decide ((ts.length : Int) ≤ n)
theorem encS_at {l : List (List UInt8)} {i : Nat} {s : List UInt8} (h : l[i]? = some s) : pickA none (encS.cs l) i = some (.str s) :=
 encS.pick1 (l := l) rfl h (v := .str s) rfl rfl
theorem pTexts {ts : List (List UInt8)} (hl : ts.length < 4611686018427387904) (n most : Int) : PCF Tryz.prog 16 [encS.S ts, .int .i64 n, .int .i64 most] (.bool (lightB ts n most)) := by
 refine pcf_e hmG (TabOk.none _) comp16 (by decide) (by simp) (nidL_ok (by simp only [nidL, nid, Enc.S_nid, Bool.and_self])) ?_
 have hlen : ∀ hp, lenA hp (encS.S ts) = some (.int .i64 (ts.length : Int)) := fun hp => Enc.S_len _ _ _
 have hlf : lenFits .slice (encS.S ts) = true := rfl
 refine vcE.step (by simp (disch := first | assumption | omega) only [go_sem, ↓reduceIte]; rfl) (vcE.then (fun e tm hp => hp = [] ∧ ((e = .ret ∧ tm 6 = .bool false ∧ ts.all (fun s => decide ((s.length : Int) ≤ most)) = false) ∨ (e = .normal ∧ tm 0 = encS.S ts ∧ tm 1 = .int .i64 n ∧ ts.all (fun s => decide ((s.length : Int) ≤ most)) = true))) ?_ ?_)
 ·refine vcE.step (by simp (disch := first | assumption | omega) only [go_sem, ↓reduceIte]; rfl) (vcE.block (vcE.count (by intro l tm hp h; simp at h)
   (fun i tm hp => hp = [] ∧ tm 0 = encS.S ts ∧ tm 1 = .int .i64 n ∧ tm 2 = .int .i64 most ∧ tm 7 = .int .i64 i ∧ (ts.take i).all (fun s => decide ((s.length : Int) ≤ most)) = true) ts.length ⟨rfl, ?_, ?_, ?_, ?_, by simp⟩ ?_ ?_))
  ·rfl
  ·rfl
  ·rfl
  ·rfl
  ·rintro i tm hp hi ⟨rfl, e0, e1, e2, e7, hall⟩
   have hg : ts[i]? = some ts[i] := List.getElem?_eq_getElem hi
   have hia : iaddrA 1 (encS.S ts) (.int .i64 (i : Int)) = some (.fptr (encS.cs ts) (i * 1)) := encS.S_iaddr hi
   rw [Nat.mul_one] at hia
   have hpk := encS_at hg
   have hta : (ts.take (i + 1)).all (fun s => decide ((s.length : Int) ≤ most)) = decide ((ts[i].length : Int) ≤ most) := by
    rw [List.take_add_one, List.all_append, hall, hg]
    simp
   by_cases hs : (ts[i].length : Int) ≤ most
   ·refine vcE.ex (by simp (disch := first | assumption | omega) only [go_sem, ↓reduceIte, e7, reduceCtorEq, e0, hlf, ↓hlen, Nat.reduceEqDiff, hia, ↓hpk, e2]; rfl) ?_
    refine ⟨rfl, ?_, ?_, ?_, ?_, by rw [hta]; exact decide_eq_true hs⟩
    all_goals simp only [upd_app, Nat.reduceEqDiff, ↓reduceIte, e0, e1, e2, e7]
    rfl
   ·refine vcE.ex (by simp (disch := first | assumption | omega) only [go_sem, ↓reduceIte, e7, reduceCtorEq, e0, hlf, ↓hlen, Nat.reduceEqDiff, hia, ↓hpk, e2]; rfl) ?_
    refine ⟨rfl, .inl ⟨rfl, ?_, ?_⟩⟩
    ·simp only [upd_app, Nat.reduceEqDiff, ↓reduceIte]
    ·rw [Bool.eq_false_iff]
     intro h
     rw [List.all_eq_true] at h
     exact hs (by simpa using h _ (List.getElem_mem hi))
  ·rintro tm hp ⟨rfl, e0, e1, e2, e7, hall⟩
   refine vcE.ex (by simp (disch := first | assumption | omega) only [go_sem, ↓reduceIte, e7, reduceCtorEq, e0, hlf, ↓hlen, Nat.reduceEqDiff]; rfl) ?_
   refine ⟨rfl, .inr ⟨rfl, ?_, ?_, ?_⟩⟩
   ·simp only [upd_app, Nat.reduceEqDiff, ↓reduceIte, e0]
   ·simp only [upd_app, Nat.reduceEqDiff, ↓reduceIte, e1]
   ·rw [List.take_length] at hall
    exact hall
 ·rintro e tm hp ⟨rfl, ⟨rfl, h6, hall⟩ | ⟨rfl, h0, h1, hall⟩⟩
  ·refine ⟨_, rfl, ?_⟩
   rw [h6, lightB, hall]
   rfl
  ·refine vcE.ex (by simp (disch := first | assumption | omega) only [go_sem, ↓reduceIte, h0, hlf, ↓hlen, Nat.reduceEqDiff, h1]; rfl) ?_
   refine ⟨_, rfl, ?_⟩
   simp only [upd_app, Nat.reduceEqDiff, ↓reduceIte]
   rw [lightB, hall]
   rfl
end
section
open Go Go.Proofs
def L1 : Tab := Tab.none.addO 16 (.cons (.S encS) (.cons .i64 (.cons .i64 .nil))) fun p => if p.1.length < 4611686018427387904 then some (.rd true (.bool (lightB p.1 p.2.1 p.2.2.1))) else none
theorem L1_ok : TabOk Tryz.prog L1 := by
 refine TabOk.addO (TabOk.none _) ?_
 intro p r h
 split at h
 ·rename_i hv; cases h; exact pTexts hv p.2.1 p.2.2.1
 ·cases h
theorem L1_texts (l : List (List UInt8)) (n m : Int) (h : l.length < 4611686018427387904) : L1 16 [encS.S l, .int .i64 n, .int .i64 m] = some (.rd true (.bool (lightB l n m))) :=
 (Tab.addO_self _ _ (.cons (.S encS) (.cons .i64 (.cons .i64 .nil))) _ (l, n, m, ())).trans (if_pos h)
theorem pLightC (p : List UInt8) (l : List (List UInt8)) (hl : l.length < 4611686018427387904) : PCF Tryz.prog 5 [.str p, encS.S l] (.bool (decide (p.length ≤ 60) && lightB l 20 200)) := by
 refine pcf_e hmG L1_ok comp5 (by decide) (by simp) (nidL_ok (by simp only [nidL, nid, Enc.S_nid, Bool.and_self])) ?_
 have k := L1_texts l 20 200 hl
 by_cases h : p.length ≤ 60
 ·have h' : (p.length : Int) ≤ 60 := by omega
  rw [decide_eq_true h, Bool.true_and]
  refine vcE.ex (by simp (disch := first | assumption | omega) only [go_sem, ↓reduceIte, reduceCtorEq, h', Nat.reduceEqDiff, k]; rfl) ?_
  exact ⟨_, rfl, rfl⟩
 ·have h' : ¬ (p.length : Int) ≤ 60 := by omega
  rw [decide_eq_false h, Bool.false_and]
  refine vcE.ex (by simp (disch := first | assumption | omega) only [go_sem, ↓reduceIte, reduceCtorEq, h', decide_false, Nat.reduceEqDiff]; rfl) ?_
  exact ⟨_, rfl, rfl⟩
def W1 : Tab := ((((((((((((Tab.none).addR 4 .nil fun _ => .rd true (.bool true)).addO 5 (.cons .str (.cons (.S encS) .nil)) fun p => if p.2.1.length < 4611686018427387904 then some (.rd true (.bool (decide (p.1.length ≤ 60) && lightB p.2.1 20 200))) else none).addO 6 (.cons .dfa .nil) fun p => if p.1.nxt.length ≤ roomy then some (.rd true (.bool p.1.light)) else none).addO 7 (.cons .str (.cons .bool (.cons .i64 .nil))) fun p => if p.1.length ≤ 150 then some (.rd true (.tup [.agg (buildF p.1 p.2.1 p.2.2.1).1.c, .bool (buildF p.1 p.2.1 p.2.2.1).2])) else none).addO 8 (.cons .str (.cons .bool (.cons .i64 .nil))) fun p => if p.1.length ≤ 150 then some (.rd false (.tup [.agg (buildF p.1 p.2.1 p.2.2.1).1.c, .bool (buildF p.1 p.2.1 p.2.2.1).2])) else none).addO 9 (.cons .dfa (.cons .dfa .nil)) fun p => if p.1.small ∧ p.2.1.small then some (.rd true (.bool (decide (p.1 = p.2.1)))) else none).addO 10 (.cons .dfa .nil) fun p => if p.1.fits = true then some (.rd true (.int .i64 (if p.1.ok then 0 else 2))) else none).addO 11 (.cons .dfa .nil) fun p => if p.1.small then some (.rd true (.int .i64 (if p.1.ok then 0 else 2))) else none).addO 13 (.cons .dfa .nil) fun p => if p.1.small then some (.rd false (.agg p.1.c)) else none).addO 12 (.cons .dfa (.cons .str .nil)) fun p => if p.1.fits = true ∧ p.2.1.length ≤ roomy then some (.rd true (.bool (p.1.run p.2.1))) else none).addO 14 (.cons .dfa (.cons .str .nil)) fun p => if p.1.small ∧ p.2.1.length ≤ 1000000 then some (.rd true (.bool (p.1.run p.2.1))) else none).addO 15 (.cons .dfa (.cons .dfa .nil)) fun p => if p.1.small ∧ p.2.1.small then some (.rd true (.bool (decide (p.1 = p.2.1)))) else none
theorem W1_ok : TabOk Tryz.prog W1 := by
 refine TabOk.addO (TabOk.addO (TabOk.addO (TabOk.addO (TabOk.addO (TabOk.addO (TabOk.addO (TabOk.addO (TabOk.addO (TabOk.addO (TabOk.addO (TabOk.addR (TabOk.none _) ?_) ?_) ?_) ?_) ?_) ?_) ?_) ?_) ?_) ?_) ?_) ?_
 ·exact fun _ => pLivesS
 ·intro p r h
  split at h
  ·rename_i hv; cases h; exact pLightC p.1 p.2.1 hv
  ·cases h
 ·intro p r h
  split at h
  ·rename_i hv; cases h; exact pLightDfa p.1 hv
  ·cases h
 ·intro p r h
  split at h
  ·rename_i hv; cases h; exact pBuild p.1 p.2.1 p.2.2.1 (by omega) (pat_le (by omega))
  ·cases h
 ·intro p r h
  split at h
  ·rename_i hv; cases h; exact by rw [← buildD_eq hv]; exact rBuild p.1 p.2.1 p.2.2.1 (by omega)
  ·cases h
 ·intro p r h
  split at h
  ·rename_i hv; cases h; exact rDSame p.1 p.2.1 hv.1 hv.2
  ·cases h
 ·intro p r h
  split at h
  ·rename_i hv; cases h; exact pDCheck p.1 hv
  ·cases h
 ·intro p r h
  split at h
  ·rename_i hv; cases h; exact rDCheck p.1 hv
  ·cases h
 ·intro p r h
  split at h
  ·rename_i hv; cases h; exact pOwnDfa p.1 hv
  ·cases h
 ·intro p r h
  split at h
  ·rename_i hv; cases h; exact pDRun p.1 hv.1 p.2.1 hv.2
  ·cases h
 ·intro p r h
  split at h
  ·rename_i hv; cases h; exact rDRun p.1 hv.1 p.2.1 hv.2
  ·cases h
 ·intro p r h
  split at h
  ·rename_i hv; cases h; exact pSame p.1 p.2.1 hv.1 hv.2
  ·cases h
theorem W1_lives : W1 4 [] = some (.rd true (.bool true)) :=
 (Tab.addO_ne _ _ _ _ rfl _).trans ((Tab.addO_ne _ _ _ _ rfl _).trans ((Tab.addO_ne _ _ _ _ rfl _).trans ((Tab.addO_ne _ _ _ _ rfl _).trans ((Tab.addO_ne _ _ _ _ rfl _).trans ((Tab.addO_ne _ _ _ _ rfl _).trans ((Tab.addO_ne _ _ _ _ rfl _).trans ((Tab.addO_ne _ _ _ _ rfl _).trans ((Tab.addO_ne _ _ _ _ rfl _).trans ((Tab.addO_ne _ _ _ _ rfl _).trans ((Tab.addO_ne _ _ _ _ rfl _).trans (Tab.addR_self _ _ .nil _ ())))))))))))
theorem W1_light (p : List UInt8) {l : List (List UInt8)} (h : l.length < 4611686018427387904) : W1 5 [.str p, encS.S l] = some (.rd true (.bool (decide (p.length ≤ 60) && lightB l 20 200))) :=
 (Tab.addO_ne _ _ _ _ rfl _).trans ((Tab.addO_ne _ _ _ _ rfl _).trans ((Tab.addO_ne _ _ _ _ rfl _).trans ((Tab.addO_ne _ _ _ _ rfl _).trans ((Tab.addO_ne _ _ _ _ rfl _).trans ((Tab.addO_ne _ _ _ _ rfl _).trans ((Tab.addO_ne _ _ _ _ rfl _).trans ((Tab.addO_ne _ _ _ _ rfl _).trans ((Tab.addO_ne _ _ _ _ rfl _).trans ((Tab.addO_ne _ _ _ _ rfl _).trans ((Tab.addO_self _ _ (.cons .str (.cons (.S encS) .nil)) _ (p, l, ())).trans (if_pos h)))))))))))
theorem W1_lightD {d : Dfa} (h : d.nxt.length ≤ roomy) : W1 6 [.agg d.c] = some (.rd true (.bool d.light)) :=
 (Tab.addO_ne _ _ _ _ rfl _).trans ((Tab.addO_ne _ _ _ _ rfl _).trans ((Tab.addO_ne _ _ _ _ rfl _).trans ((Tab.addO_ne _ _ _ _ rfl _).trans ((Tab.addO_ne _ _ _ _ rfl _).trans ((Tab.addO_ne _ _ _ _ rfl _).trans ((Tab.addO_ne _ _ _ _ rfl _).trans ((Tab.addO_ne _ _ _ _ rfl _).trans ((Tab.addO_ne _ _ _ _ rfl _).trans ((Tab.addO_self _ _ (.cons .dfa .nil) _ (d, ())).trans (if_pos h))))))))))
theorem W1_build {p : List UInt8} (f : Bool) (most : Int) (h : p.length ≤ 150) : W1 7 [.str p, .bool f, .int .i64 most] = some (.rd true (.tup [.agg (buildF p f most).1.c, .bool (buildF p f most).2])) :=
 (Tab.addO_ne _ _ _ _ rfl _).trans ((Tab.addO_ne _ _ _ _ rfl _).trans ((Tab.addO_ne _ _ _ _ rfl _).trans ((Tab.addO_ne _ _ _ _ rfl _).trans ((Tab.addO_ne _ _ _ _ rfl _).trans ((Tab.addO_ne _ _ _ _ rfl _).trans ((Tab.addO_ne _ _ _ _ rfl _).trans ((Tab.addO_ne _ _ _ _ rfl _).trans ((Tab.addO_self _ _ (.cons .str (.cons .bool (.cons .i64 .nil))) _ (p, f, most, ())).trans (if_pos h)))))))))
theorem W1_rbuild {p : List UInt8} (f : Bool) (most : Int) (h : p.length ≤ 150) : W1 8 [.str p, .bool f, .int .i64 most] = some (.rd false (.tup [.agg (buildF p f most).1.c, .bool (buildF p f most).2])) :=
 (Tab.addO_ne _ _ _ _ rfl _).trans ((Tab.addO_ne _ _ _ _ rfl _).trans ((Tab.addO_ne _ _ _ _ rfl _).trans ((Tab.addO_ne _ _ _ _ rfl _).trans ((Tab.addO_ne _ _ _ _ rfl _).trans ((Tab.addO_ne _ _ _ _ rfl _).trans ((Tab.addO_ne _ _ _ _ rfl _).trans ((Tab.addO_self _ _ (.cons .str (.cons .bool (.cons .i64 .nil))) _ (p, f, most, ())).trans (if_pos h))))))))
theorem W1_rsame {a b : Dfa} (h : a.small ∧ b.small) : W1 9 [.agg a.c, .agg b.c] = some (.rd true (.bool (decide (a = b)))) :=
 (Tab.addO_ne _ _ _ _ rfl _).trans ((Tab.addO_ne _ _ _ _ rfl _).trans ((Tab.addO_ne _ _ _ _ rfl _).trans ((Tab.addO_ne _ _ _ _ rfl _).trans ((Tab.addO_ne _ _ _ _ rfl _).trans ((Tab.addO_ne _ _ _ _ rfl _).trans ((Tab.addO_self _ _ (.cons .dfa (.cons .dfa .nil)) _ (a, b, ())).trans (if_pos h)))))))
theorem W1_check {d : Dfa} (h : d.fits = true) : W1 10 [.agg d.c] = some (.rd true (.int .i64 (if d.ok then 0 else 2))) :=
 (Tab.addO_ne _ _ _ _ rfl _).trans ((Tab.addO_ne _ _ _ _ rfl _).trans ((Tab.addO_ne _ _ _ _ rfl _).trans ((Tab.addO_ne _ _ _ _ rfl _).trans ((Tab.addO_ne _ _ _ _ rfl _).trans ((Tab.addO_self _ _ (.cons .dfa .nil) _ (d, ())).trans (if_pos h))))))
theorem W1_rcheck {d : Dfa} (h : d.small) : W1 11 [.agg d.c] = some (.rd true (.int .i64 (if d.ok then 0 else 2))) :=
 (Tab.addO_ne _ _ _ _ rfl _).trans ((Tab.addO_ne _ _ _ _ rfl _).trans ((Tab.addO_ne _ _ _ _ rfl _).trans ((Tab.addO_ne _ _ _ _ rfl _).trans ((Tab.addO_self _ _ (.cons .dfa .nil) _ (d, ())).trans (if_pos h)))))
theorem W1_own {d : Dfa} (h : d.small) : W1 13 [.agg d.c] = some (.rd false (.agg d.c)) :=
 (Tab.addO_ne _ _ _ _ rfl _).trans ((Tab.addO_ne _ _ _ _ rfl _).trans ((Tab.addO_ne _ _ _ _ rfl _).trans ((Tab.addO_self _ _ (.cons .dfa .nil) _ (d, ())).trans (if_pos h))))
theorem W1_run {d : Dfa} {t : List UInt8} (h : d.fits = true ∧ t.length ≤ roomy) : W1 12 [.agg d.c, .str t] = some (.rd true (.bool (d.run t))) :=
 (Tab.addO_ne _ _ _ _ rfl _).trans ((Tab.addO_ne _ _ _ _ rfl _).trans ((Tab.addO_self _ _ (.cons .dfa (.cons .str .nil)) _ (d, t, ())).trans (if_pos h)))
theorem W1_rrun {d : Dfa} {t : List UInt8} (h : d.small ∧ t.length ≤ 1000000) : W1 14 [.agg d.c, .str t] = some (.rd true (.bool (d.run t))) :=
 (Tab.addO_ne _ _ _ _ rfl _).trans ((Tab.addO_self _ _ (.cons .dfa (.cons .str .nil)) _ (d, t, ())).trans (if_pos h))
theorem W1_same {a b : Dfa} (h : a.small ∧ b.small) : W1 15 [.agg a.c, .agg b.c] = some (.rd true (.bool (decide (a = b)))) :=
 (Tab.addO_self _ _ (.cons .dfa (.cons .dfa .nil)) _ (a, b, ())).trans (if_pos h)
theorem cC_store {H : HP} {k : Nat} {d : Dfa} (hk : H.length = k) : storeA (H ++ [some (.row 26 [.nils, .nils, .nils])]) 3 (.ptr k 0) (.agg d.c) = some (H ++ [some (.row 26 d.c)]) := by
 subst hk
 have hl : d.c.length = 3 := rfl
 have ho : over [.nils, .nils, .nils] 0 d.c = d.c := rfl
 simp only [go_sem, storeA, List.getElem?_append_right (Nat.le_refl _), Nat.sub_self, cellsA, hl, Nat.zero_add, Nat.reduceAdd, Nat.le_refl, ho, if_true]
 rw [List.set_append_right _ _ (Nat.le_refl _), Nat.sub_self]
 rfl
theorem Dfa.light_small {d : Dfa} (h : d.light = true) : d.small := by
 simp only [Dfa.light, Bool.and_eq_true, List.all_eq_true, decide_eq_true_eq] at h
 obtain ⟨h1, h2, h3, h4⟩ := h
 exact ⟨by omega, by omega, by omega, fun r hr => by have := h1 r hr; omega⟩
theorem lawDCalls (p : List UInt8) (f : Bool) (most : Int) (d c : Dfa) (t : List UInt8) (hd0 : d.nxt.length ≤ roomy) (hc0 : c.nxt.length ≤ roomy) : PC Tryz.prog 3 [.str p, .bool f, .int .i64 most, .agg d.c, .agg c.c, .str t] (.bool true) := by
 refine PCF.pc (pcf_e hmG W1_ok comp3 (by decide) (by simp) (nidL_ok (by simp only [nidL, nid, d.c_nid, c.c_nid, Bool.and_self])) ?_)
 have e1 := W1_lives
 have e2 := W1_light p (l := [t]) (by simp)
 have hfr : frz [some (.row 26 d.c), some (.row 26 c.c), some (.row 9 [.str t])] (.sl 2 0 1 1 1 true) = some (encS.S [t]) := rfl
 have qcd : cellsA (.agg d.c) = d.c := rfl
 have qcc : cellsA (.agg c.c) = c.c := rfl
 have qd : pickA (some 3) d.c 0 = some (.agg d.c) := rfl
 have qc : pickA (some 3) c.c 0 = some (.agg c.c) := rfl
 have cfd : ∀ hp, frz hp (.agg d.c) = some (.agg d.c) := fun hp => by simp only [frz, d.c_frz]
 have cfc : ∀ hp, frz hp (.agg c.c) = some (.agg c.c) := fun hp => by simp only [frz, c.c_frz]
 have ndd : nid (.agg d.c) = true := by simp only [nid, d.c_nid]
 have ndc : nid (.agg c.c) = true := by simp only [nid, c.c_nid]
 refine vcE.step (by simp (disch := first | assumption | omega) only [go_sem, ↓reduceIte, qcd, Nat.reduceEqDiff, qcc]; rfl) (vcE.step (by simp (disch := first | assumption | omega) only [go_sem, ↓reduceIte, e1]; rfl) ?_)
 have k1 := W1_lightD hd0
 have k2 := W1_lightD hc0
 cases hlt : (decide (p.length ≤ 60) && lightB [t] 20 200) with
 | false =>
  rw [hlt] at e2
  refine vcE.ex (by simp (disch := first | assumption | omega) only [go_sem, ↓reduceIte, reduceCtorEq, Nat.reduceEqDiff, Nat.reduceAdd, ↓hfr, e2]; rfl) ?_
  exact ⟨_, rfl, rfl⟩
 | true =>
 rw [hlt] at e2
 cases hld : d.light with
 | false =>
  rw [hld] at k1
  refine vcE.ex (by simp (disch := first | assumption | omega) only [go_sem, ↓reduceIte, reduceCtorEq, Nat.reduceEqDiff, Nat.reduceAdd, ↓hfr, e2, ↓qd, cfd, k1, ndd]; rfl) ?_
  exact ⟨_, rfl, rfl⟩
 | true =>
 rw [hld] at k1
 cases hlc : c.light with
 | false =>
  rw [hlc] at k2
  refine vcE.ex (by simp (disch := first | assumption | omega) only [go_sem, ↓reduceIte, reduceCtorEq, Nat.reduceEqDiff, Nat.reduceAdd, ↓hfr, e2, ↓qd, cfd, k1, ndd, ↓qc, cfc, k2, ndc]; rfl) ?_
  exact ⟨_, rfl, rfl⟩
 | true =>
 rw [hlc] at k2
 refine vcE.step (by simp (disch := first | assumption | omega) only [go_sem, ↓reduceIte, reduceCtorEq, Nat.reduceEqDiff, Nat.reduceAdd, ↓hfr, e2, ↓qd, cfd, k1, ndd, ↓qc, cfc, k2, ndc]; rfl) ?_
 obtain ⟨hp60, ht⟩ := Bool.and_eq_true_iff.1 hlt
 have hp60 := of_decide_eq_true hp60
 have htl : t.length ≤ 200 := by
  simp only [lightB, List.all_cons, List.all_nil, Bool.and_true, Bool.and_eq_true, decide_eq_true_eq] at ht
  have := ht.1
  omega
 have e3 := W1_build f most (p := p) (by omega)
 have e4 := W1_rbuild f most (p := p) (by omega)
 have hsm := build_small (p := p) (f := f) (most := most) (pat_le (by omega))
 generalize (buildF p f most).1 = a at *
 generalize (buildF p f most).2 = is at *
 have st1 : storeA [some (.row 26 d.c), some (.row 26 c.c), some (.row 9 [.str t]), some (.row 26 [.nils, .nils, .nils])] 3 (.ptr 3 0) (.agg a.c) = some [some (.row 26 d.c), some (.row 26 c.c), some (.row 9 [.str t]), some (.row 26 a.c)] := cC_store (H := [some (.row 26 d.c), some (.row 26 c.c), some (.row 9 [.str t])]) rfl
 have st2 : storeA [some (.row 26 d.c), some (.row 26 c.c), some (.row 9 [.str t]), some (.row 26 a.c), some (.row 26 [.nils, .nils, .nils])] 3 (.ptr 4 0) (.agg a.c) = some [some (.row 26 d.c), some (.row 26 c.c), some (.row 9 [.str t]), some (.row 26 a.c), some (.row 26 a.c)] := cC_store (H := [some (.row 26 d.c), some (.row 26 c.c), some (.row 9 [.str t]), some (.row 26 a.c)]) rfl
 refine vcE.step (by simp (disch := first | assumption | omega) only [go_sem, ↓reduceIte, reduceCtorEq, Nat.reduceEqDiff, e3, Nat.reduceAdd, ↓st1]; rfl) (vcE.then (fun e tm hp => e = .normal ∧ hp = [some (.row 26 d.c), some (.row 26 c.c), some (.row 9 [.str t]), some (.row 26 a.c), some (.row 26 a.c)] ∧ tm 5 = .str t ∧ tm 9 = .ptr 0 0 ∧ tm 10 = .ptr 1 0 ∧ tm 13 = .ptr 3 0 ∧ tm 14 = .bool is ∧ tm 15 = .ptr 4 0 ∧ tm 16 = .bool is) (vcE.ex (by simp (disch := first | assumption | omega) only [go_sem, ↓reduceIte, reduceCtorEq, Nat.reduceEqDiff, e4, Nat.reduceAdd, ↓st2]; rfl) ⟨rfl, rfl, rfl, rfl, rfl, rfl, rfl, rfl, rfl⟩) ?_)
 rintro e tm hp ⟨rfl, rfl, t5, t9, t10, t13, t14, t15, t16⟩
 have sd := Dfa.light_small hld
 have sc := Dfa.light_small hlc
 have fd := Dfa.light_fits hld
 have qa : pickA (some 3) a.c 0 = some (.agg a.c) := rfl
 have cfa : ∀ hp, frz hp (.agg a.c) = some (.agg a.c) := fun hp => by simp only [frz, a.c_frz]
 have nda : nid (.agg a.c) = true := by simp only [nid, a.c_nid]
 have m1 := W1_rsame ⟨hsm, hsm⟩
 rw [decide_eq_true rfl] at m1
 have m2 := W1_check fd
 have m3 := W1_rcheck sd
 have m4 := W1_own sd
 have m5 := W1_run (t := t) ⟨fd, by simp only [roomy]; omega⟩
 have m6 := W1_rrun (t := t) ⟨sd, by omega⟩
 have m7 := W1_same ⟨sd, sc⟩
 have m8 := W1_rsame ⟨sd, sc⟩
 have m9 := W1_same ⟨sd, sd⟩
 rw [decide_eq_true (show d = d from rfl)] at m9
 generalize (if d.ok = true then (0 : Int) else 2) = n0 at *
 generalize d.run t = b0 at *
 generalize decide (d = c) = b1 at *
 clear e1 e2 e3 e4 k1 k2 st1 st2 hfr qcd qcc hsm ht hlt hld hlc sd sc fd
 refine vcE.ex (by simp (disch := first | assumption | omega) only [go_sem, ↓reduceIte, t13, ↓qa, Nat.reduceEqDiff, t15, cfa, m1, nda, t14, t16, t9, ↓qd, cfd, m2, ndd, m3, t5, m4, m5, m6, t10, ↓qc, cfc, m7, ndc, m8, m9]; rfl) ?_
 refine ⟨_, rfl, ?_⟩
 simp only [upd_app, Nat.reduceEqDiff, ↓reduceIte, fresh_bool]
end
end Go.Gi
