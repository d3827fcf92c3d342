/- Runs in parts: calls that were run before. -/
import Derived.Test.YtakdhioafodhcaaGreatDoorGiXE
set_option linter.unusedVariables false
namespace Go.Gi
open Go

/-- What a function gives for values without names (variables among them that the run never looks at), run from the empty memory. -/
theorem pcf_run {P : Program} (hm : P.follows .mixedOrders = true) {T : FTr} (hT : T.All (FOk P)) {O : XCall} (hO : XOk P O) {E : XCall} (hE : EOk P E) {L : List (Nat × LI)} (hL : LAll P L) {n : Nat} {f : FuncId} {xs : List AV} {r r0 : AV} {h0 : HP} {lo : Nat} (hn : nidL xs = true) (h : xF T O (xC T O E L n) f xs [] = some (r, h0, lo)) (hf : fresh h0 r = some r0) : PCF P f xs r0 :=
  pcf_of (nidL_ok hn) ((run_ok hm hT hO hE hL h).mono fun a b ⟨e1, e2⟩ => by subst e1; subst e2; exact fresh_ok hf)

end Go.Gi
