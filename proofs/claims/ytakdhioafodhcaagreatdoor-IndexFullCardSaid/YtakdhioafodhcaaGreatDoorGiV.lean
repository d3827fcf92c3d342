/- cap; appending so many zeros to a slice without elements and room. -/
import Derived.Test.YtakdhioafodhcaaGreatDoorGiF
set_option linter.unusedVariables false
set_option linter.unusedSimpArgs false
namespace Go.Gi
open Go

def capA : AV → Option AV
  | .nils | .esl => some (.int .i64 0)
  | .sl _ _ _ _ lo true => some (.int .i64 lo)
  | _ => none

theorem cap_ok {P : Program} {Γ : Cx} {hp : HP} (h : HSim Γ hp) {t ty e : TypeId} (ht : P.underlying t = some (.slice e)) {x r : AV} {v : Value} (hv : VRel Γ x v) (hr : capA x = some r) : OpOk P Γ hp (Builtin.cap_ #[t] ty #[v]) r hp := by
  unfold capA at hr
  split at hr
  · simp only [Option.some.injEq] at hr; subst hr
    simp only [VRel] at hv; subst hv
    exact OpOk.same h (v := .int .i64 0) (by simp [Builtin.cap_, run_underlying ht, goInt]) (by simp [VRel])
  · simp only [Option.some.injEq] at hr; subst hr
    simp only [VRel] at hv
    rcases hv with rfl | ⟨_, rfl⟩
    · exact OpOk.same h (v := .int .i64 0) (by simp [Builtin.cap_, run_underlying ht, goInt]) (by simp [VRel])
    · exact OpOk.same h (v := .int .i64 0) (by simp [Builtin.cap_, run_underlying ht, goInt]) (by simp [VRel])
  · rename_i id off len sz lo
    simp only [Option.some.injEq] at hr; subst hr
    simp only [VRel] at hv
    obtain ⟨_, o, c, _, _, rfl, _, _, _, k3, _⟩ := hv
    have := k3 trivial
    subst this
    exact OpOk.same h (v := .int .i64 c) (by simp [Builtin.cap_, run_underlying ht, goInt]) (by simp [VRel])
  · cases hr

def emptyA : AV → Bool
  | .nils | .esl => true
  | _ => false
def appzA (e : TypeId) (Z : List AV) (bytes : Nat) (hp : HP) (d x : AV) : Option (AV × HP) :=
  if emptyA d = true then
    match x with
    | .int _ n => if 0 ≤ n ∧ n.toNat * bytes ≤ 140737488355328 ∧ n ≤ 9223372036854775807 then (if n.toNat = 0 then some (d, hp) else some (.sl hp.length 0 n.toNat Z.length n.toNat false, hp ++ [some (.row e (zerosA Z n.toNat))])) else none
    | _ => none
  else none

theorem wrap64' {n : Int} (h1 : 0 ≤ n) (h2 : n ≤ 9223372036854775807) : IntKind.wrap .i64 n = n := by
  have e : (2 : Int) ^ 64 = 18446744073709551616 := by decide
  have e' : (2 : Int) ^ (64 - 1) = 9223372036854775808 := by decide
  simp only [IntKind.wrap, IntKind.bits, IntKind.signed, Bool.true_and, decide_eq_true_eq, e, e']
  split <;> omega

theorem appz_ok {P : Program} {Γ : Cx} {hp hp' : HP} (h : HSim Γ hp) {t tx ty e : TypeId} {sz bytes : Nat} (ht : elemP P t = some (e, sz, bytes)) {k : IntKind} (hx : P.underlying tx = some (.int k)) {Z : List AV} (hz : zeroP P e = some Z) {d x r : AV} {v u : Value} (hv : VRel Γ d v) (hu : VRel Γ x u)
    (hr : appzA e Z bytes hp d x = some (r, hp')) : OpOk P Γ hp (Builtin.append_ #[t, tx] ty #[v, u]) r hp' := by
  obtain ⟨hut, i, z, hi, hzz, hzs, rfl, rfl⟩ := elemP_some ht
  obtain ⟨i', z', hi', hz', hs', hZl, key⟩ := zeroP_some hz
  rw [hi] at hi'; cases hi'
  rw [hzz] at hz'; cases hz'
  unfold appzA at hr
  split at hr
  · rename_i hd
    split at hr
    · rename_i k' n
      simp only [VRel] at hu
      subst hu
      split at hr
      · rename_i hb
        obtain ⟨h0, h1, h2⟩ := hb
        have hw := wrap64' h0 h2
        have hv' : ∃ a : Option Addr, v = .slice a 0 0 := by
          cases d <;> simp only [emptyA, Bool.false_eq_true] at hd
          · simp only [VRel] at hv; exact ⟨none, hv⟩
          · simp only [VRel] at hv
            rcases hv with hv | ⟨b, hv⟩
            · exact ⟨none, hv⟩
            · exact ⟨_, hv⟩
        obtain ⟨a, rfl⟩ := hv'
        have hl0 : ¬ n < 0 := by omega
        have hl1 : ¬ (281474976710656 < n * (i.bytes : Int)) := by
          obtain ⟨m, rfl⟩ : ∃ m : Nat, n = m := ⟨n.toNat, by omega⟩
          rw [Int.toNat_natCast] at h1
          rw [← Int.natCast_mul]
          omega
        split at hr
        · rename_i hn0
          simp only [Option.some.injEq, Prod.mk.injEq] at hr
          obtain ⟨rfl, rfl⟩ := hr
          have : n = 0 := by omega
          subst this
          refine OpOk.same h (v := .slice a 0 0) ?_ hv
          cases a <;> simp [Builtin.append_, run_underlying hut, run_underlying hx, sizeOf, typeInfo, hi, asInt, asIntOf, hw, storeCells]
        · rename_i hn0
          simp only [Option.some.injEq, Prod.mk.injEq] at hr
          obtain ⟨rfl, rfl⟩ := hr
          obtain ⟨q1, q2⟩ := zeros_rel (key Γ).1 (key Γ).2 n.toNat
          have hzc : (Builtin.zeroCells z.cells n.toNat).toList = (List.replicate n.toNat z.cells.toList).flatten := cycle_list z.cells n.toNat
          rw [← hzc] at q1 q2
          have hnt : 0 < n.toNat := by omega
          have hfirst : ∀ w, (Builtin.firstCells i.size 0 (.slice a 0 0)).run P w = .ok #[] w := by
            intro w
            cases a with
            | none => exact run_firstCells_none w i.size 0 0 0
            | some a => have := run_firstCells_some (P := P) w i.size 0 a 0 0 [] (by simp) (fun j u hj => by simp at hj); simpa using this
          have hcap := growslice_fits (need := n.toNat) (old := 0) hnt h1
          have hge := grownCap_ge Γ.w n.toNat 0 e
          obtain ⟨Δ, p1, p2, p3, p4⟩ := grown_row (P := P) h e q1 q2 (Builtin.zeroCells z.cells (grownCap Γ.w n.toNat 0 e - n.toNat)).toList (grownCap Γ.w n.toNat 0 e) n.toNat i.size (by
            rw [List.length_append, Array.length_toList, Array.length_toList, size_zeroCells, size_zeroCells, hzs, ← Nat.add_mul]
            exact Nat.mul_le_mul_right _ (by omega)) hge
          refine ⟨_, Δ, ?_, by rw [← hZl] at p2; exact p2, p3, p4⟩
          have g1 : ¬ n ≤ 0 := by omega
          have g2 : ¬ 9223372036854775807 < max n 0 := by omega
          have g3 : ¬ 281474976710656 < Builtin.nextslicecap n.toNat 0 * i.bytes := by omega
          simp [Builtin.append_, run_underlying hut, run_underlying hx, sizeOf, typeInfo, zeroValue, hi, hzz, asInt, asIntOf, hw, hl0, hl1, hfirst, g1, g2, g3, Question.forced, newRow]
          rw [p1]
          simp only [grownCap]
          have hs0 : n.toNat * i.size = 0 → Builtin.zeroCells z.cells n.toNat = #[] := fun h => Array.eq_empty_of_size_eq_zero (by rw [size_zeroCells, hzs]; exact h)
          split
          · rename_i h0
            rw [hs0 h0]
            simp
          · congr 3
            apply Array.ext'
            simp
      · cases hr
    · cases hr
  · cases hr

end Go.Gi
