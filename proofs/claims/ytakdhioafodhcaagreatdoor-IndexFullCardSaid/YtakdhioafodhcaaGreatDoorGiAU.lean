/- Stepping with branches. -/
import Derived.Test.YtakdhioafodhcaaGreatDoorGiS
import Derived.Test.YtakdhioafodhcaaGreatDoorGiRP
set_option linter.unusedVariables false
set_option linter.unusedSimpArgs false
namespace Go.Gi
open Go

variable {P : Program} {hint : Nat → Nat} {T : Tab} {n : Nat}

theorem vcE.condB {c : Opd} {a b : IC} {tm : Env} {hp : HP} {Q : Exit → Env → HP → Prop} (t : Bool) (ht : evE tm c = .bool t) (h1 : t = true → vcE P hint T n a tm hp Q) (h2 : t = false → vcE P hint T n b tm hp Q) : vcE P hint T n (.cond c a b) tm hp Q := vcE.cond t ht h1 h2
theorem vcE.condD {c : Opd} {a b : IC} {tm : Env} {hp : HP} {Q : Exit → Env → HP → Prop} (p : Prop) [Decidable p] (ht : evE tm c = .bool (decide p)) (h1 : p → vcE P hint T n a tm hp Q) (h2 : ¬ p → vcE P hint T n b tm hp Q) : vcE P hint T n (.cond c a b) tm hp Q :=
  vcE.cond _ ht (fun h => h1 (of_decide_eq_true h)) (fun h => h2 (of_decide_eq_false h))
theorem vcE.condNB {c : Opd} {a b : IC} {tm : Env} {hp : HP} {Q : Exit → Env → HP → Prop} (t : Bool) (ht : evE tm c = .bool (!t)) (h1 : t = false → vcE P hint T n a tm hp Q) (h2 : t = true → vcE P hint T n b tm hp Q) : vcE P hint T n (.cond c a b) tm hp Q :=
  vcE.cond _ ht (fun h => h1 (by simpa using h)) (fun h => h2 (by simpa using h))
theorem vcE.condND {c : Opd} {a b : IC} {tm : Env} {hp : HP} {Q : Exit → Env → HP → Prop} (p : Prop) [Decidable p] (ht : evE tm c = .bool (!decide p)) (h1 : ¬ p → vcE P hint T n a tm hp Q) (h2 : p → vcE P hint T n b tm hp Q) : vcE P hint T n (.cond c a b) tm hp Q :=
  vcE.condNB _ ht (fun h => h1 (of_decide_eq_false h)) (fun h => h2 (of_decide_eq_true h))
theorem vcE.condTrue {c : Opd} {a b : IC} {tm : Env} {hp : HP} {Q : Exit → Env → HP → Prop} (ht : evE tm c = .bool true) (h1 : vcE P hint T n a tm hp Q) : vcE P hint T n (.cond c a b) tm hp Q := vcE.cond true ht (fun _ => h1) (fun h => nomatch h)
theorem vcE.condFalse {c : Opd} {a b : IC} {tm : Env} {hp : HP} {Q : Exit → Env → HP → Prop} (ht : evE tm c = .bool false) (h1 : vcE P hint T n b tm hp Q) : vcE P hint T n (.cond c a b) tm hp Q := vcE.cond false ht (fun h => nomatch h) (fun _ => h1)

/-- A loop that counts, and what follows it. -/
theorem vcE.count {c : IC} {tm : Env} {hp : HP} {Q : Exit → Env → HP → Prop} (hng : ∀ l tm hp, ¬ Q (.goto l) tm hp) (I : Nat → Env → HP → Prop) (m : Nat) (h0 : I 0 tm hp)
    (step : ∀ i tm hp, i < m → I i tm hp → vcE P hint T n c tm hp fun e tm' hp' => match e with
      | .normal => I (i + 1) tm' hp'
      | e => Q e tm' hp')
    (last : ∀ tm hp, I m tm hp → vcE P hint T n c tm hp fun e tm' hp' => match e with
      | .normal => False
      | e => Q e tm' hp') : vcE P hint T n (.loop c) tm hp Q := by
  refine vcE.loop hng (fun k tm hp => ∃ i, i ≤ m ∧ k = m - i ∧ I i tm hp) m ⟨0, Nat.zero_le _, rfl, h0⟩ ?_
  rintro k tm hp ⟨i, h1, h2, h3⟩
  by_cases hi : i < m
  · refine (step i tm hp hi h3).mono ?_
    intro e tm' hp' h
    cases e with
    | normal => exact ⟨m - (i + 1), by omega, i + 1, hi, rfl, h⟩
    | _ => exact h
  · obtain rfl : i = m := by omega
    refine (last tm hp h3).mono ?_
    intro e tm' hp' h
    cases e with
    | normal => exact h.elim
    | _ => exact h
theorem set_concat {β : Type} (l : List β) (x y : β) : (l ++ [x]).set l.length y = l ++ [y] := by
  rw [List.set_append_right _ _ (Nat.le_refl _), Nat.sub_self]
  rfl

end Go.Gi
