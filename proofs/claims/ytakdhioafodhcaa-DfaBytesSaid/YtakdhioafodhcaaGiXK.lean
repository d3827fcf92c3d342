/- Runs in parts: calls that were run before. -/
import Derived.Test.YtakdhioafodhcaaGiXE
set_option linter.unusedVariables false
namespace Go.Gi
open Go

/-- A call, and what it gives. -/
structure KC where
  f : Nat
  xs : List AV
  hp : HP
  r : AV
  hp' : HP
  lo : Nat
def knownO : List KC → XCall
  | [], _, _, _ => none
  | k :: l, f, xs, hp => cond (Nat.beq f k.f && AV.eqbL xs k.xs && hpEqb hp k.hp) (some (k.r, k.hp', k.lo)) (knownO l f xs hp)
def KAll (P : Program) : List KC → Prop
  | [] => True
  | k :: l => ((ACalls P k.f k.xs k.hp fun a b => a = k.r ∧ b = k.hp') ∧ Kept k.hp k.hp' k.lo) ∧ KAll P l
theorem knownO_ok {P : Program} : ∀ {l : List KC}, KAll P l → XOk P (knownO l)
  | [], _ => fun _ _ _ _ _ _ h => by cases h
  | k :: l, hk => fun f xs hp r hp' lo h => by
    simp only [knownO] at h
    cases hb : (Nat.beq f k.f && AV.eqbL xs k.xs && hpEqb hp k.hp) <;> rw [hb] at h
    · exact knownO_ok hk.2 f xs hp r hp' lo h
    · simp only [cond_true, Option.some.injEq, Prod.mk.injEq] at h
      obtain ⟨rfl, rfl, rfl⟩ := h
      simp only [Bool.and_eq_true] at hb
      obtain ⟨⟨h1, h2⟩, h3⟩ := hb
      rw [Nat.eq_of_beq_eq_true h1, AV.eqbL_eq h2, hpEqb_eq h3]
      exact hk.1
theorem known_run {P : Program} (hm : P.follows .mixedOrders = true) {T : FTr} (hT : T.All (FOk P)) {O : XCall} (hO : XOk P O) {E : XCall} (hE : EOk P E) {L : List (Nat × LI)} (hL : LAll P L) {n : Nat} (k : KC) (h : xF T O (xC T O E L n) k.f k.xs k.hp = some (k.r, k.hp', k.lo)) : (ACalls P k.f k.xs k.hp fun a b => a = k.r ∧ b = k.hp') ∧ Kept k.hp k.hp' k.lo :=
  xF_ok hm hT hO (xC_ok hm hT hO hE hL n) k.f k.xs k.hp k.r k.hp' k.lo h
theorem known_run2 {P : Program} (hm : P.follows .mixedOrders = true) {T T2 : FTr} (hT : T.All (FOk P)) (hT2 : T2.All (FOk P)) {O : XCall} (hO : XOk P O) {E : XCall} (hE : EOk P E) {L : List (Nat × LI)} (hL : LAll P L) {n : Nat} (k : KC) (h : xF T O (xC T2 O E L n) k.f k.xs k.hp = some (k.r, k.hp', k.lo)) : (ACalls P k.f k.xs k.hp fun a b => a = k.r ∧ b = k.hp') ∧ Kept k.hp k.hp' k.lo :=
  xF_ok hm hT hO (xC_ok hm hT2 hO hE hL n) k.f k.xs k.hp k.r k.hp' k.lo h
/-- What a function gives for values without names (variables among them that the run never looks at), run from the empty memory. -/
theorem pcf_run {P : Program} (hm : P.follows .mixedOrders = true) {T : FTr} (hT : T.All (FOk P)) {O : XCall} (hO : XOk P O) {E : XCall} (hE : EOk P E) {L : List (Nat × LI)} (hL : LAll P L) {n : Nat} {f : FuncId} {xs : List AV} {r r0 : AV} {h0 : HP} {lo : Nat} (hn : nidL xs = true) (h : xF T O (xC T O E L n) f xs [] = some (r, h0, lo)) (hf : fresh h0 r = some r0) : PCF P f xs r0 :=
  pcf_of (nidL_ok hn) ((run_ok hm hT hO hE hL h).mono fun a b ⟨e1, e2⟩ => by subst e1; subst e2; exact fresh_ok hf)

end Go.Gi
