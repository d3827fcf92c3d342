/- Long regions, in pieces. -/
import Derived.Test.YtmehgdpbcafboaaGiAU
set_option linter.unusedVariables false
set_option linter.unusedSimpArgs false
namespace Go.Gi
open Go
variable {P : Program} {hint : Nat → Nat} {T : Tab} {n : Nat}
theorem exOps_two {w : Cls} {T : Tab} : ∀ {a b : List IOp} {tm tm1 : Env} {hp hp1 : HP} {r : Option (Env × HP)}, exOps w T a tm hp = some (tm1, hp1) → exOps w T b tm1 hp1 = r → exOps w T (a ++ b) tm hp = r
  | [], b, tm, tm1, hp, hp1, r, h, k => by
    simp only [exOps, Option.some.injEq, Prod.mk.injEq] at h
    obtain ⟨rfl, rfl⟩ := h
    exact k
  | o :: a, b, tm, tm1, hp, hp1, r, h, k => by
    simp only [exOps, List.cons_append] at h ⊢
    split at h
    · exact exOps_two h k
    · cases h
/-- A long region in two. -/
theorem vcE.regS {w : Cls} {is : List IOp} {t : Tr} {tm : Env} {hp : HP} {Q : Exit → Env → HP → Prop} (hc : chain t = true) {a b : List IOp} (ho : ordered is t = a ++ b) {tm1 : Env} {hp1 : HP} (h1 : exOps w T a tm hp = some (tm1, hp1)) {tm2 : Env} {hp2 : HP} (h2 : exOps w T b tm1 hp1 = some (tm2, hp2)) (hq : Q .normal tm2 hp2) : vcE P hint T n (.regD w is t) tm hp Q :=
  vcE.ex (e := .normal) (tm' := tm2) (hp' := hp2) (by simp only [exC, hc, cond_true]; rw [ho, exOps_two h1 h2]) hq

end Go.Gi
