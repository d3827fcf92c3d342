/- Bytes, whole numbers and truth values as elements; glob.fold, Match's comparing functions, glob.Check: what they give. -/
import Derived.Test.YtakdhioafodhcaaGreatDoorGoI
import Derived.Test.YtakdhioafodhcaaGreatDoorGiAU
set_option linter.unusedVariables false
set_option linter.unusedSimpArgs false
namespace Go.Gi
open Go Go.Proofs

theorem hmG : Tryz.prog.follows .mixedOrders = true := by kernel_rfl

def R1.u8 : R1 UInt8 where
  v c := .int .u8 c.toNat
  un := fun
    | .int .u8 n => if 0 ≤ n ∧ n < 256 then some (UInt8.ofNat n.toNat) else none
    | _ => none
  un_v c := by
    have := c.toNat_lt
    show (if (0 : Int) ≤ c.toNat ∧ (c.toNat : Int) < 256 then some (UInt8.ofNat (c.toNat : Int).toNat) else none) = _
    rw [if_pos (by omega), Int.toNat_natCast, UInt8.ofNat_toNat]
  un_some x a h := by
    split at h
    · split at h
      · rename_i n hn
        cases h
        rw [UInt8.toNat_ofNat_of_lt' (show n.toNat < 256 by omega), Int.toNat_of_nonneg hn.1]
      · cases h
    · cases h
def encB : Enc UInt8 where
  c b := [.int .u8 b.toNat]
  sz := 1
  pos := by omega
  len _ := rfl
  nd _ := rfl
  ip := true
  pl _ _ := rfl
  fz _ _ := rfl
  dec := fun
    | [x] => R1.u8.un x
    | _ => none
  dec_c b := R1.u8.un_v b
  dec_some cs a h := by
    split at h
    · rw [R1.u8.un_some _ _ h]; rfl
    · cases h
def encI : Enc Int where
  c b := [.int .i64 b]
  sz := 1
  pos := by omega
  len _ := rfl
  nd _ := rfl
  ip := true
  pl _ _ := rfl
  fz _ _ := rfl
  dec := fun
    | [.int .i64 n] => some n
    | _ => none
  dec_c b := rfl
  dec_some cs a h := by
    split at h
    · cases h; rfl
    · cases h
/-- glob.Check. -/
def checkG (p : List UInt8) : Int := if p = [] then 2 else if p.length > 255 then 4 else 0
theorem pCheck (p : List UInt8) : PCF Tryz.prog 28 [.str p] (.int .i64 (checkG p)) := by
  refine pcf_e hmG (TabOk.none _) comp28 (by decide) (by simp) (nidL_ok rfl) ?_
  unfold checkG
  repeat' (first | refine vcE.seq ?_ | refine vcE.block ?_ | (refine vcE.condTrue ?_ ?_; first | rfl | (simp (disch := first | assumption | omega) only [go_sem, ↓reduceIte, Nat.reduceEqDiff, reduceCtorEq, Nat.reduceAdd, Nat.reduceLeDiff] <;> rfl)) | (refine vcE.condFalse ?_ ?_; first | rfl | (simp (disch := first | assumption | omega) only [go_sem, ↓reduceIte, Nat.reduceEqDiff, reduceCtorEq, Nat.reduceAdd, Nat.reduceLeDiff] <;> rfl)) | (refine vcE.condND _ rfl (fun hc => ?_) (fun hc => ?_) <;> try (exfalso; first | omega | contradiction)) | (refine vcE.condD _ rfl (fun hc => ?_) (fun hc => ?_) <;> try (exfalso; first | omega | contradiction)) | (refine vcE.condNB _ rfl (fun hc => ?_) (fun hc => ?_) <;> try (exfalso; first | omega | contradiction)) | (refine vcE.condB _ rfl (fun hc => ?_) (fun hc => ?_) <;> try (exfalso; first | omega | contradiction)) | (apply vcE.ex; (simp (disch := first | assumption | omega) only [go_sem, ↓reduceIte, Nat.reduceEqDiff, reduceCtorEq, Nat.reduceAdd, Nat.reduceLeDiff] <;> rfl)) | fail)
  all_goals refine ⟨_, rfl, ?_⟩
  all_goals simp (disch := omega) only [if_pos, if_neg, *]
  all_goals rfl

end Go.Gi
