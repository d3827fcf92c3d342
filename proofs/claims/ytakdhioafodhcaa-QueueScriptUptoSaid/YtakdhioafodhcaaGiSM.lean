/- Functions of package slices that write, as compiled, for elements of any one kind: Delete, IndexFunc and DeleteFunc with a function that may write, Grow and Concat. -/
import Derived.Test.YtakdhioafodhcaaGiSL
set_option linter.unusedVariables false
set_option linter.unusedSimpArgs false
set_option linter.unusedSectionVars false
namespace Go.Gi
open Go

variable {α : Type}

theorem slice_hi {sz id off len cap h : Nat} {ex : Bool} {k : IntKind} (hh : h ≤ cap) : sliceA sz (.sl id off len sz cap ex) none (some (.int k (h : Int))) none = some (.sl id off h sz cap ex) := by
  simp only [sliceA, bndA, cutA, Option.getD_none, Option.getD_some, Option.isSome_none, Option.isNone_some, Bool.false_eq_true, if_true]
  rw [if_pos ⟨fun h => h.elim, by omega, by omega, .inr (by omega), by omega, by omega⟩]
  simp
theorem slice_lo {sz id off len cap l : Nat} {ex : Bool} {k : IntKind} (hh : l ≤ len) (hc : len ≤ cap) : sliceA sz (.sl id off len sz cap ex) (some (.int k (l : Int))) none none = some (.sl id (off + l * sz) (len - l) sz (cap - l) ex) := by
  simp only [sliceA, bndA, cutA, Option.getD_none, Option.getD_some, Option.isSome_none, Option.isNone_none, Bool.false_eq_true, if_true]
  rw [if_pos ⟨fun h => h.elim, by omega, by omega, .inl trivial, by omega, by omega⟩]
  simp
theorem slice_lh {sz id off len cap l h : Nat} {ex : Bool} {k k' : IntKind} (hh : l ≤ h) (hc : h ≤ cap) : sliceA sz (.sl id off len sz cap ex) (some (.int k (l : Int))) (some (.int k' (h : Int))) none = some (.sl id (off + l * sz) (h - l) sz (cap - l) ex) := by
  simp only [sliceA, bndA, cutA, Option.getD_none, Option.getD_some, Option.isSome_none, Option.isNone_some, Bool.false_eq_true, if_true]
  rw [if_pos ⟨fun h => h.elim, by omega, by omega, .inr (by omega), by omega, by omega⟩]
  simp
theorem slice_lhm {sz id off len cap l h m : Nat} {ex : Bool} {k k' k2 : IntKind} (hh : l ≤ h) (hc : h ≤ m) (hm : m ≤ cap) : sliceA sz (.sl id off len sz cap ex) (some (.int k (l : Int))) (some (.int k' (h : Int))) (some (.int k2 (m : Int))) = some (.sl id (off + l * sz) (h - l) sz (m - l) true) := by
  simp only [sliceA, bndA, cutA, Option.getD_some, Option.isSome_some, Option.isNone_some, Bool.false_eq_true, if_true]
  rw [if_pos ⟨fun _ => trivial, by omega, by omega, .inr (by omega), by omega, by omega⟩]
  simp

section
variable (E : Enc α)
theorem Enc.over_mid {l m : List α} {i : Nat} (h : i + m.length ≤ l.length) : over (E.cs l) (i * E.sz) (E.cs m) = E.cs (l.take i ++ m ++ l.drop (i + m.length)) := by
  simp only [over, E.cs_app, E.cs_len]
  rw [E.cs_take, ← Nat.add_mul, E.cs_drop]
theorem Enc.zeros {z : α} {n : Nat} : zerosA (E.c z) n = E.cs (List.replicate n z) := by
  rw [zerosA_eq]
  induction n with
  | zero => rfl
  | succ n ih => simp only [List.replicate_succ, List.flatten_cons, ih, Enc.cs]
theorem Enc.part {l : List α} {i n : Nat} : ((E.cs l).drop (i * E.sz)).take (n * E.sz) = E.cs ((l.drop i).take n) := by
  rw [E.cs_drop, E.cs_take]
variable {hp : HP} {id : Nat} {e : TypeId} {l : List α} {k lo : Nat} {ex : Bool}
/-- A slice of our own that has less elements than its row. -/
theorem Enc.pre_frz (h : hp[id]? = some (some (.row e (E.cs l)))) (hk : k ≤ l.length) : frz hp (.sl id 0 k E.sz lo ex) = some (E.S (l.take k)) := by
  have : k * E.sz ≤ l.length * E.sz := Nat.mul_le_mul_right _ hk
  simp only [frz, h]
  rw [if_pos (by rw [E.cs_len, E.cs_nid]; simp; exact this), List.drop_zero, E.cs_take]
  simp [Enc.S, Nat.min_eq_left hk]
theorem Enc.pre_fresh (h : hp[id]? = some (some (.row e (E.cs l)))) (hk : k ≤ l.length) (hi : E.ip = true := by rfl) : fresh hp (.sl id 0 k E.sz lo ex) = some (E.S (l.take k)) := by
  have : k * E.sz ≤ l.length * E.sz := Nat.mul_le_mul_right _ hk
  simp only [fresh, h]
  rw [if_pos (by rw [E.cs_len, E.cs_plain hi]; simp; exact this), List.drop_zero, E.cs_take]
  simp [Enc.S, Nat.min_eq_left hk]
theorem Enc.sl_clear {z : α} {i n m : Nat} (h : hp[id]? = some (some (.row e (E.cs l)))) (hn : i + n ≤ l.length) : clearA hp (E.c z) (.sl id (i * E.sz) n E.sz m ex) = some (hp.set id (some (.row e (E.cs (l.take i ++ List.replicate n z ++ l.drop (i + n)))))) := by
  by_cases h0 : n = 0
  · subst h0
    have hlt := get_lt h
    simp only [clearA, if_true, List.replicate_zero, List.append_nil, Nat.add_zero, List.take_append_drop, Option.some.injEq]
    apply List.ext_getElem?
    intro j
    rw [List.getElem?_set]
    split
    · rename_i hj; subst hj; first | rw [if_pos hlt, h] | exact h
    · rfl
  · have hm : (i + n) * E.sz ≤ l.length * E.sz := Nat.mul_le_mul_right _ hn
    rw [Nat.add_mul] at hm
    simp only [clearA, h]
    rw [if_neg h0, if_pos ⟨(E.len z).symm, by rw [E.cs_len]; exact hm⟩, E.zeros, E.over_mid (by simpa using hn)]
    simp
theorem set_same {hp : HP} {id : Nat} {x : Option Blk} (h : hp[id]? = some x) : hp.set id x = hp := by
  apply List.ext_getElem?
  intro j
  rw [List.getElem?_set]
  split
  · rename_i hj; subst hj; first | rw [if_pos (get_lt h), h] | exact h
  · rfl
/-- Appending within the room: a part of the same row. -/
theorem Enc.sl_move {bytes i j : Nat} {ex2 : Bool} {m2 : Nat} (h : hp[id]? = some (some (.row e (E.cs l)))) (hij : i ≤ j) (hj : j ≤ l.length) :
    appA e E.sz bytes hp (.sl id 0 i E.sz l.length ex) (.sl id (j * E.sz) (l.length - j) E.sz m2 ex2) = some (.sl id 0 (i + (l.length - j)) E.sz l.length ex, hp.set id (some (.row e (E.cs (l.take i ++ l.drop j ++ l.drop (i + (l.length - j))))))) := by
  have h1 : j * E.sz + (l.length - j) * E.sz = l.length * E.sz := by rw [← Nat.add_mul]; congr 1; omega
  have hsrc : srcA hp E.sz (.sl id (j * E.sz) (l.length - j) E.sz m2 ex2) = some (E.cs (l.drop j), l.length - j) := by
    simp only [srcA, h]
    rw [if_pos ⟨trivial, by rw [E.cs_len]; omega⟩, E.part, List.take_of_length_le (by simp)]
  have hlen : (l.drop j).length = l.length - j := by simp
  simp only [appA, hsrc]
  by_cases h0 : l.length - j = 0
  · have hd : l.drop j = [] := List.eq_nil_of_length_eq_zero (by omega)
    rw [if_pos h0, h0, hd]
    simp only [Nat.add_zero, List.append_nil, List.take_append_drop]
    rw [set_same h]
  · have h2 : (i + (l.length - j)) * E.sz ≤ l.length * E.sz := Nat.mul_le_mul_right _ (by omega)
    have h3 : i * E.sz ≤ l.length * E.sz := Nat.mul_le_mul_right _ (by omega)
    rw [if_neg h0]
    simp only [h]
    rw [if_pos ⟨trivial, by rw [E.cs_len]; omega⟩, if_pos (by omega), if_pos (by rw [E.cs_len]; omega), Nat.zero_add, E.over_mid (by omega), hlen]
end

abbrev deleteC (e : TypeId) (sz bytes : Nat) (Z : List AV) : IC := (IC.seq (IC.reg [⟨some 6, .op (.mov), [.c (.nils)], none⟩]) (IC.seq (IC.reg [⟨some 8, .op (.mov), [.t 0], none⟩,
  ⟨some 9, .op (.mov), [.t 1], none⟩,
  ⟨some 10, .op (.mov), [.t 2], none⟩,
  ⟨some 11, .op (.mov), [.t 0], none⟩,
  ⟨some 12, .op (.len .slice), [.t 11], none⟩,
  ⟨some 13, .op (.slice sz true true true), [.t 8, .t 9, .t 10, .t 12], none⟩]) (IC.seq (IC.seq (IC.reg [⟨some 14, .op (.mov), [.t 1], none⟩,
  ⟨some 15, .op (.mov), [.t 2], none⟩,
  ⟨some 16, .op (.bin .eql .prim), [.t 14, .t 15], none⟩]) (IC.cond (.t 16) (IC.seq (IC.reg [⟨some 17, .op (.mov), [.t 0], none⟩,
  ⟨some 6, .op (.mov), [.t 17], none⟩]) IC.ret) IC.skip)) (IC.seq (IC.reg [⟨some 18, .op (.mov), [.t 0], none⟩,
  ⟨some 19, .op (.len .slice), [.t 18], none⟩,
  ⟨some 7, .op (.mov), [.t 19], none⟩]) (IC.seq (IC.regD .wild [⟨some 20, .op (.mov), [.t 0], none⟩,
  ⟨some 21, .op (.mov), [.t 1], none⟩,
  ⟨some 22, .op (.slice sz false true false), [.t 20, .t 21], none⟩,
  ⟨some 23, .op (.mov), [.t 0], none⟩,
  ⟨some 24, .op (.mov), [.t 2], none⟩,
  ⟨some 25, .op (.slice sz true false false), [.t 23, .t 24], none⟩,
  ⟨some 26, .op (.app e sz bytes), [.t 22, .t 25], none⟩,
  ⟨some 0, .op (.mov), [.t 26], none⟩] (.take 0 (.take 1 (.take 2 (.take 3 (.take 4 (.take 5 (.take 6 (.take 7 (.done)))))))))) (IC.seq (IC.reg [⟨some 27, .op (.mov), [.t 0], none⟩,
  ⟨some 28, .op (.mov), [.t 0], none⟩,
  ⟨some 29, .op (.len .slice), [.t 28], none⟩,
  ⟨some 30, .op (.mov), [.t 7], none⟩,
  ⟨some 31, .op (.slice sz true true false), [.t 27, .t 29, .t 30], none⟩,
  ⟨none, .op (.clear Z), [.t 31], none⟩]) (IC.seq (IC.reg [⟨some 32, .op (.mov), [.t 0], none⟩,
  ⟨some 6, .op (.mov), [.t 32], none⟩]) IC.ret)))))))
/-- slices.Delete, of a slice of our own. -/
theorem delete_calls {P : Program} (hm : P.follows .mixedOrders = true) {hint : Nat → Nat} {f : FuncId} (E : Enc α) {e : TypeId} {bytes : Nat} (z : α) (hf : compF P hint f = some ⟨deleteC e E.sz bytes (E.c z), 33, [.t 6]⟩) {hp : HP} {id i j : Nat} {l : List α} {ex : Bool} (h : hp[id]? = some (some (.row e (E.cs l)))) (hij : i ≤ j) (hj : j ≤ l.length) :
    ACalls P f [.sl id 0 l.length E.sz l.length ex, .int .i64 i, .int .i64 j] hp fun r hp' => r = .sl id 0 (i + (l.length - j)) E.sz l.length ex ∧ hp' = hp.set id (some (.row e (E.cs (l.take i ++ l.drop j ++ List.replicate (j - i) z)))) := by
  refine calls_e hm (TabOk.none _) hf (by rfl) (by simp) ?_
  have s1 : sliceA E.sz (.sl id 0 l.length E.sz l.length ex) (some (.int .i64 (i : Int))) (some (.int .i64 (j : Int))) (some (.int .i64 (l.length : Int))) = _ := slice_lhm hij hj (Nat.le_refl _)
  by_cases h0 : i = j
  · subst h0
    refine vcE.ex (by simp (disch := omega) only [exC, exOps, exOp, wantedE, ↓reduceIte, ROp.run, evsE, evE, putE, ty, reduceCtorEq, List.getD_cons_zero, Nat.reduceEqDiff, List.getD_cons_succ, tz, same, Option.map_some, bounds3, ↓s1, binA, intA, decide_true]; rfl) ?_
    refine ⟨_, rfl, ?_, ?_⟩
    · simp only [upd_app, Nat.reduceEqDiff, ↓reduceIte, start_app, List.getD_cons_zero]
      rw [show i + (l.length - i) = l.length by omega]
    · simp only [Nat.sub_self, List.replicate_zero, List.append_nil, List.take_append_drop]
      rw [set_same h]
  · have h0' : ¬ ((i : Int) = j) := by omega
    have s2 : sliceA E.sz (.sl id 0 l.length E.sz l.length ex) none (some (.int .i64 (i : Int))) none = _ := slice_hi (by omega)
    have s3 : sliceA E.sz (.sl id 0 l.length E.sz l.length ex) (some (.int .i64 (j : Int))) none none = _ := slice_lo hj (Nat.le_refl _)
    rw [Nat.zero_add] at s3
    have s4 := E.sl_move (bytes := bytes) (ex := ex) (ex2 := ex) (m2 := l.length - j) h hij hj
    have s5 : sliceA E.sz (.sl id 0 (i + (l.length - j)) E.sz l.length ex) (some (.int .i64 ((i + (l.length - j) : Nat) : Int))) (some (.int .i64 (l.length : Int))) none = _ := slice_lh (by omega) (Nat.le_refl _)
    rw [Nat.zero_add] at s5
    have s6 := E.sl_clear (z := z) (ex := ex) (m := l.length - (i + (l.length - j))) (i := i + (l.length - j)) (n := l.length - (i + (l.length - j))) (set_get (x := some (.row e (E.cs (l.take i ++ l.drop j ++ l.drop (i + (l.length - j)))))) h) (by simp; omega)
    refine vcE.ex (by simp (disch := omega) only [exC, exOps, exOp, wantedE, ↓reduceIte, ROp.run, evsE, evE, putE, ty, reduceCtorEq, List.getD_cons_zero, Nat.reduceEqDiff, List.getD_cons_succ, tz, same, Option.map_some, bounds3, ↓s1, binA, intA, dec_false, chain, ordered, List.getElem?_cons_zero, List.getElem?_cons_succ, ↓s2, ↓s3, ↓s4, cond_true, ↓s5, ↓s6]; rfl) ?_
    refine ⟨_, rfl, ?_, ?_⟩
    · simp only [upd_app, Nat.reduceEqDiff, ↓reduceIte]
    · rw [List.set_set]
      have e1 : (l.take i ++ l.drop j).length = i + (l.length - j) := by rw [List.length_append, List.length_take, List.length_drop]; omega
      have e2 : (l.take i ++ l.drop j ++ l.drop (i + (l.length - j))).take (i + (l.length - j)) = l.take i ++ l.drop j := by rw [← e1]; exact List.take_left
      have e3 : (l.take i ++ l.drop j ++ l.drop (i + (l.length - j))).drop (i + (l.length - j) + (l.length - (i + (l.length - j)))) = [] := List.drop_eq_nil_of_le (by rw [List.length_append, e1, List.length_drop]; omega)
      rw [e2, e3, List.append_nil, show l.length - (i + (l.length - j)) = j - i by omega]

/-! ### A function that may write -/
abbrev deleteFB (e : TypeId) (sz : Nat) (Z : List AV) : IC := (IC.seq (IC.seq (IC.reg [⟨some 16, .op (.mov), [.t 6], none⟩,
  ⟨some 17, .op (.mov), [.t 0], none⟩,
  ⟨some 18, .op (.len .slice), [.t 17], none⟩,
  ⟨some 19, .op (.bin .lss .prim), [.t 16, .t 18], none⟩]) (IC.cond (.t 19) IC.skip (IC.exit 0))) (IC.seq (IC.block 1 (IC.seq (IC.reg [⟨some 22, .op (.mov), [.t 0], none⟩,
  ⟨some 23, .op (.mov), [.t 6], none⟩,
  ⟨some 24, .op (.iaddr sz), [.t 22, .t 23], none⟩,
  ⟨some 25, .op (.load (some sz)), [.t 24], none⟩,
  ⟨some 7, .op (.alloc e Z), [], none⟩,
  ⟨none, .op (.store sz), [.t 7, .t 25], none⟩]) (IC.seq (IC.reg [⟨some 26, .op (.mov), [.t 1], none⟩,
  ⟨some 27, .op (.load (some sz)), [.t 7], none⟩,
  ⟨some 28, .call none, [.t 26, .t 27], none⟩,
  ⟨some 29, .op (.un .not), [.t 28], none⟩]) (IC.cond (.t 29) (IC.seq (IC.reg [⟨some 30, .op (.mov), [.t 0], none⟩,
  ⟨some 31, .op (.mov), [.t 5], none⟩,
  ⟨some 32, .op (.load (some sz)), [.t 7], none⟩,
  ⟨some 33, .op (.iaddr sz), [.t 30, .t 31], none⟩,
  ⟨none, .op (.store sz), [.t 33, .t 32], none⟩]) (IC.reg [⟨some 34, .op (.mov), [.t 5], none⟩,
  ⟨some 35, .op (.bin .add .prim), [.t 34, .c (.int .i64 1)], none⟩,
  ⟨some 5, .op (.mov), [.t 35], none⟩])) IC.skip)))) (IC.reg [⟨some 20, .op (.mov), [.t 6], none⟩,
  ⟨some 21, .op (.bin .add .prim), [.t 20, .c (.int .i64 1)], none⟩,
  ⟨some 6, .op (.mov), [.t 21], none⟩])))
abbrev deleteFC (g : FuncId) (e : TypeId) (sz : Nat) (Z : List AV) : IC := (IC.seq (IC.reg [⟨some 4, .op (.mov), [.c (.nils)], none⟩]) (IC.seq (IC.reg [⟨some 8, .op (.mov), [.t 0], none⟩,
  ⟨some 9, .op (.mov), [.t 1], none⟩,
  ⟨some 10, .call none, [.f g, .t 8, .t 9], none⟩,
  ⟨some 5, .op (.mov), [.t 10], none⟩]) (IC.seq (IC.seq (IC.reg [⟨some 11, .op (.mov), [.t 5], none⟩,
  ⟨some 12, .op (.bin .eql .prim), [.t 11, .c (.int .i64 (-1))], none⟩]) (IC.cond (.t 12) (IC.seq (IC.reg [⟨some 13, .op (.mov), [.t 0], none⟩,
  ⟨some 4, .op (.mov), [.t 13], none⟩]) IC.ret) IC.skip)) (IC.seq (IC.seq (IC.reg [⟨some 14, .op (.mov), [.t 5], none⟩,
  ⟨some 15, .op (.bin .add .prim), [.t 14, .c (.int .i64 1)], none⟩,
  ⟨some 6, .op (.mov), [.t 15], none⟩]) (IC.block 0 (IC.loop (deleteFB e sz Z)))) (IC.seq (IC.reg [⟨some 36, .op (.mov), [.t 0], none⟩,
  ⟨some 37, .op (.mov), [.t 5], none⟩,
  ⟨some 38, .op (.slice sz true false false), [.t 36, .t 37], none⟩,
  ⟨none, .op (.clear Z), [.t 38], none⟩]) (IC.seq (IC.reg [⟨some 39, .op (.mov), [.t 0], none⟩,
  ⟨some 40, .op (.mov), [.t 5], none⟩,
  ⟨some 41, .op (.slice sz false true false), [.t 39, .t 40], none⟩,
  ⟨some 4, .op (.mov), [.t 41], none⟩]) IC.ret))))))

/-- What a function does, asked of the elements in turn: J tells the state ahead of each; the row that is gone through stays. -/
structure Asks (P : Program) (E : Enc α) (g : FuncId) (caps : List AV) (id : Nat) (p : α → Bool) (l : List α) (J : Nat → HP → Prop) : Prop where
  call : ∀ i a hp x, l[i]? = some a → J i hp → hp[id]? = some x → ACalls P g (.agg (E.c a) :: caps) hp fun r hp' => r = .bool (p a) ∧ J (i + 1) hp' ∧ hp'[id]? = some x
  callB : ∀ i a hp b x, l[i]? = some a → J i hp → hp[id]? = some x → ACalls P g (.agg (E.c a) :: caps) (hp ++ [b]) fun r hp' => r = .bool (p a) ∧ J (i + 1) hp' ∧ hp'[id]? = some x ∧ hp'[hp.length]? = some b
  set : ∀ i hp x, J i hp → J i (hp.set id x)

/-- slices.IndexFunc, of a slice of our own, with a function that may write. -/
theorem index_asks {P : Program} (hm : P.follows .mixedOrders = true) {hint : Nat → Nat} {f : FuncId} (E : Enc α) (hf : compF P hint f = some ⟨indexC E.sz, 19, [.t 4]⟩) {g : FuncId} {caps : List AV} {id : Nat} {p : α → Bool} {l : List α} {J : Nat → HP → Prop} (hA : Asks P E g caps id p l J) (hl : l.length ≤ 4611686018427387904) {hp : HP} {e : TypeId} {ex : Bool} (h : hp[id]? = some (some (.row e (E.cs l)))) (hJ : J 0 hp) :
    ACalls P f [.sl id 0 l.length E.sz l.length ex, .func g caps] hp fun r hp' => r = .int .i64 (idx p l) ∧ hp'[id]? = some (some (.row e (E.cs l))) ∧ J (if idx p l < 0 then l.length else (idx p l).toNat + 1) hp' := by
  refine calls_e hm (TabOk.none _) hf (by rfl) (by simp) ?_
  refine vcE.step (by simp only [exC, exOps, exOp, wantedE, ↓reduceIte, ROp.run, evsE, evE, putE]; rfl) (vcE.then (fun e' tm hp' => hp'[id]? = some (some (.row e (E.cs l))) ∧ ((e' = .normal ∧ idx p l = -1 ∧ J l.length hp') ∨ (e' = .ret ∧ tm 4 = .int .i64 (idx p l) ∧ 0 ≤ idx p l ∧ J ((idx p l).toNat + 1) hp'))) ?_ ?_)
  · refine vcE.step (by simp only [exC, exOps, exOp, wantedE, ↓reduceIte, ROp.run, evsE, evE, ty, reduceCtorEq, List.getD_cons_zero, putE, tz, same, Option.map_some]; rfl) (vcE.block (vcE.count (by intro l tm hp h; simp at h)
      (fun i tm hp' => hp'[id]? = some (some (.row e (E.cs l))) ∧ J i hp' ∧ tm 0 = .sl id 0 l.length E.sz l.length ex ∧ tm 1 = .func g caps ∧ tm 7 = .int .i64 l.length ∧ tm 8 = .int .i64 i ∧ ∀ j, j < i → ∀ b, l[j]? = some b → p b = false) l.length ⟨h, hJ, rfl, rfl, rfl, rfl, by omega⟩ ?_ ?_))
    · rintro i tm hp' hi ⟨hrow, hji, e0, e1, e7, e8, hb⟩
      obtain ⟨a, ha⟩ : ∃ a, l[i]? = some a := ⟨_, List.getElem?_eq_getElem hi⟩
      have hia : iaddrA E.sz (.sl id 0 l.length E.sz l.length ex) (.int .i64 i) = some (.ptr id (0 + i * E.sz)) := iaddr_sl hi
      rw [Nat.zero_add] at hia
      have hld := E.sl_load hrow ha
      refine vcE.step (by simp (disch := omega) only [exC, exOps, exOp, wantedE, ↓reduceIte, ROp.run, evsE, evE, e8, e7, same, binA, intA, dec_true, Option.map_some, putE]; rfl) (vcE.step (by simp (disch := omega) only [exC, evE, ty, ↓reduceIte]; rfl) (vcE.seq (vcE.block (vcE.step (by simp (disch := omega) only [exC, exOps, exOp, wantedE, ↓reduceIte, ROp.run, evsE, evE, ty, Nat.reduceEqDiff, e8, putE]; rfl) ?_))))
      rw [show ([⟨some 11, .op (.mov), [.t 1], none⟩, ⟨some 12, .op (.mov), [.t 0], none⟩, ⟨some 13, .op (.mov), [.t 5], none⟩, ⟨some 14, .op (.iaddr E.sz), [.t 12, .t 13], none⟩, ⟨some 15, .op (.load (some E.sz)), [.t 14], none⟩, ⟨some 16, .call none, [.t 11, .t 15], none⟩] : List IOp) = [⟨some 11, .op (.mov), [.t 1], none⟩, ⟨some 12, .op (.mov), [.t 0], none⟩, ⟨some 13, .op (.mov), [.t 5], none⟩, ⟨some 14, .op (.iaddr E.sz), [.t 12, .t 13], none⟩, ⟨some 15, .op (.load (some E.sz)), [.t 14], none⟩] ++ [⟨some 16, .call none, [.t 11, .t 15], none⟩] from rfl]
      refine vcE.seq (vcE.app (vcE.ex (by simp (disch := omega) only [exC, exOps, exOp, wantedE, ↓reduceIte, ROp.run, evsE, evE, ty, Nat.reduceEqDiff, e1, putE, reduceCtorEq, e0, same, hia, Option.map_some, ↓hld]; rfl) ⟨rfl, vcE.call (f := g) (caps := caps) (ys := [.agg (E.c a)]) rfl ?_ (hA.call i a hp' _ ha hji hrow) ?_⟩))
      · simp only [evsE, evE, upd_app, Nat.reduceEqDiff, ↓reduceIte]
      · rintro r hp2 ⟨rfl, hj2, hrow2⟩
        cases hpa : p a
        · refine vcE.condFalse (by simp only [evE, putE, upd_app, ↓reduceIte]) (vcE.ex (by simp only [exC]; rfl) ?_)
          refine vcE.ex (by simp (disch := omega) only [exC, exOps, exOp, wantedE, ↓reduceIte, ROp.run, evsE, evE, putE, ty, Nat.reduceEqDiff, e8, same, binA, intA, Option.map_some]; rfl) ?_
          refine ⟨hrow2, hj2, ?_, ?_, ?_, ?_, fun j hj b hb' => ?_⟩
          · simp only [upd_app, Nat.reduceEqDiff, ↓reduceIte, putE, e0]
          · simp only [upd_app, Nat.reduceEqDiff, ↓reduceIte, putE, e1]
          · simp only [upd_app, Nat.reduceEqDiff, ↓reduceIte, putE, e7]
          · simp only [upd_app, Nat.reduceEqDiff, ↓reduceIte]; rfl
          · by_cases hji' : j = i
            · subst hji'
              rw [ha] at hb'
              cases hb'
              exact hpa
            · exact hb j (by omega) b hb'
        · have hidx : idx p l = i := idx_some ha hpa hb
          refine vcE.condTrue (by simp only [evE, putE, upd_app, ↓reduceIte]) (vcE.ex (by simp (disch := omega) only [exC, exOps, exOp, wantedE, ↓reduceIte, ROp.run, evsE, evE, putE, ty, Nat.reduceEqDiff]; rfl) ?_)
          refine ⟨hrow2, .inr ⟨rfl, ?_, ?_, ?_⟩⟩
          · simp only [upd_app, Nat.reduceEqDiff, ↓reduceIte, hidx]
          · omega
          · rw [hidx, Int.toNat_natCast]
            exact hj2
    · rintro tm hp' ⟨hrow, hji, e0, e1, e7, e8, hb⟩
      refine vcE.ex (by simp (disch := omega) only [exC, exOps, exOp, wantedE, ↓reduceIte, ROp.run, evsE, evE, e8, e7, same, binA, intA, dec_false, Option.map_some, putE, ty]; rfl) ?_
      exact ⟨hrow, .inl ⟨rfl, idx_none hb, hji⟩⟩
  · rintro e' tm hp' ⟨hrow, ⟨rfl, h1, h2⟩ | ⟨rfl, h1, h2, h3⟩⟩
    · refine vcE.ex (by simp only [exC, exOps, exOp, wantedE, ↓reduceIte, ROp.run, evsE, evE, putE]; rfl) ?_
      refine ⟨_, rfl, ?_, hrow, ?_⟩
      · simp only [upd_app, ↓reduceIte, h1]
      · rw [if_pos (by omega)]
        exact h2
    · refine ⟨_, rfl, ?_, hrow, ?_⟩
      · rw [h1]
      · rw [if_neg (by omega)]
        exact h3

/-- What is left of the first elements. -/
def kept (p : α → Bool) (l : List α) (j : Nat) : List α := (l.take j).filter fun a => !p a
theorem kept_le (p : α → Bool) (l : List α) (j : Nat) : (kept p l j).length ≤ j ∧ (kept p l j).length ≤ l.length := by
  have h1 : (kept p l j).length ≤ (l.take j).length := List.length_filter_le _ _
  rw [List.length_take] at h1
  omega
theorem kept_step {p : α → Bool} {l : List α} {j : Nat} {a : α} (h : l[j]? = some a) : kept p l (j + 1) = kept p l j ++ if p a then [] else [a] := by
  simp only [kept, List.take_add_one, h, Option.toList_some, List.filter_append, List.filter_cons, List.filter_nil]
  cases p a <;> rfl
theorem kept_all (p : α → Bool) (l : List α) : kept p l l.length = l.filter fun a => !p a := by
  simp [kept]
/-- The row then: what is left, and behind it the old elements. -/
def rowed (p : α → Bool) (l : List α) (j : Nat) : List α := kept p l j ++ l.drop (kept p l j).length
theorem rowed_len (p : α → Bool) (l : List α) (j : Nat) : (rowed p l j).length = l.length := by
  have := kept_le p l j
  simp only [rowed, List.length_append, List.length_drop]
  omega
theorem rowed_get {p : α → Bool} {l : List α} {j : Nat} {a : α} (h : l[j]? = some a) : (rowed p l j)[j]? = some a := by
  have := kept_le p l j
  rw [rowed, List.getElem?_append_right (by omega), List.getElem?_drop, ← h]
  congr 1
  omega
theorem rowed_keep {p : α → Bool} {l : List α} {j : Nat} {a : α} (h : l[j]? = some a) (hp : p a = false) : (rowed p l j).set (kept p l j).length a = rowed p l (j + 1) := by
  have hk := kept_le p l j
  have hj := (List.getElem?_eq_some_iff.1 h).1
  rw [rowed, rowed, kept_step h, hp, List.set_append_right _ _ (Nat.le_refl _), Nat.sub_self]
  simp only [Bool.false_eq_true, if_false, List.length_append, List.length_cons, List.length_nil, List.append_assoc, List.cons_append, List.nil_append]
  congr 1
  rw [List.drop_eq_getElem_cons (by omega)]
  rfl
theorem rowed_drop {p : α → Bool} {l : List α} {j : Nat} {a : α} (h : l[j]? = some a) (hp : p a = true) : rowed p l (j + 1) = rowed p l j := by
  rw [rowed, rowed, kept_step h, hp]
  simp
theorem rowed_first {p : α → Bool} {l : List α} {i : Nat} (h : idx p l = i) : i < l.length ∧ rowed p l (i + 1) = l ∧ (kept p l (i + 1)).length = i := by
  unfold idx at h
  split at h
  · rename_i k hk
    obtain rfl : k = i := by omega
    rw [List.findIdx?_eq_some_iff_getElem] at hk
    obtain ⟨h1, h2, h3⟩ := hk
    have e : kept p l (k + 1) = l.take k := by
      rw [kept_step (List.getElem?_eq_getElem h1), h2, if_pos rfl, List.append_nil, kept]
      refine List.filter_eq_self.2 fun a ha => ?_
      obtain ⟨j, hj, rfl⟩ := List.mem_iff_getElem.1 ha
      rw [List.length_take] at hj
      have := h3 j (by omega)
      rw [List.getElem_take]
      simpa using this
    have e2 : (l.take k).length = k := by rw [List.length_take]; omega
    refine ⟨h1, ?_, by rw [e, e2]⟩
    rw [rowed, e, e2, List.take_append_drop]
  · omega
theorem idx_neg {p : α → Bool} {l : List α} (h : idx p l < 0) : l.filter (fun a => !p a) = l := by
  unfold idx at h
  split at h
  · omega
  · rename_i hk
    rw [List.findIdx?_eq_none_iff] at hk
    exact List.filter_eq_self.2 fun a ha => by simp [hk a ha]
theorem alloc_store {E : Enc α} {hp : HP} {e : TypeId} {Z : List AV} {a : α} (hZ : Z.length = E.sz) : storeA (hp ++ [some (.row e Z)]) E.sz (.ptr hp.length 0) (.agg (E.c a)) = some (hp ++ [some (.row e (E.c a))]) := by
  simp only [storeA_eq, List.getElem?_concat_length, notTup, cellsA, E.len, hZ, Nat.zero_add, Nat.le_refl, and_self, decide_true, Bool.and_self, if_true]
  rw [set_concat]
  simp [over, E.len, hZ]
/-- slices.DeleteFunc, of a slice of our own, with a function that may write. -/
theorem deleteF_asks {P : Program} (hm : P.follows .mixedOrders = true) {hint hint' : Nat → Nat} {f gi : FuncId} (E : Enc α) {e0 : TypeId} (z : α) (hf : compF P hint f = some ⟨deleteFC gi e0 E.sz (E.c z), 42, [.t 4]⟩) (hfi : compF P hint' gi = some ⟨indexC E.sz, 19, [.t 4]⟩) {g : FuncId} {caps : List AV} {id : Nat} {p : α → Bool} {l : List α} {J : Nat → HP → Prop} (hA : Asks P E g caps id p l J) (hl : l.length ≤ 4611686018427387904) {hp : HP} {e : TypeId} {ex : Bool} (h : hp[id]? = some (some (.row e (E.cs l)))) (hJ : J 0 hp) :
    ACalls P f [.sl id 0 l.length E.sz l.length ex, .func g caps] hp fun r hp' => ∃ l2 : List α, l2.length = l.length ∧ r = .sl id 0 (l.filter fun a => !p a).length E.sz l.length ex ∧ hp'[id]? = some (some (.row e (E.cs l2))) ∧ l2.take (l.filter fun a => !p a).length = (l.filter fun a => !p a) ∧ J l.length hp' := by
  refine calls_e hm (TabOk.none _) hf (by rfl) (by simp) ?_
  refine vcE.step (by simp only [exC, exOps, exOp, wantedE, ↓reduceIte, ROp.run, evsE, evE, putE]; rfl) ?_
  rw [show ([⟨some 8, .op (.mov), [.t 0], none⟩, ⟨some 9, .op (.mov), [.t 1], none⟩, ⟨some 10, .call none, [.f gi, .t 8, .t 9], none⟩, ⟨some 5, .op (.mov), [.t 10], none⟩] : List IOp) = [⟨some 8, .op (.mov), [.t 0], none⟩, ⟨some 9, .op (.mov), [.t 1], none⟩] ++ ([⟨some 10, .call none, [.f gi, .t 8, .t 9], none⟩] ++ [⟨some 5, .op (.mov), [.t 10], none⟩]) from rfl]
  refine vcE.seq (vcE.app (vcE.ex (by simp only [exC, exOps, exOp, wantedE, ↓reduceIte, ROp.run, evsE, evE, ty, reduceCtorEq, List.getD_cons_zero, putE, Nat.reduceEqDiff, List.getD_cons_succ]; rfl) ⟨rfl, vcE.app (vcE.call (f := gi) (caps := []) (ys := [.sl id 0 l.length E.sz l.length ex, .func g caps]) rfl rfl (index_asks hm E hfi hA hl h hJ) ?_)⟩))
  rintro r hp1 ⟨rfl, hrow, hj⟩
  refine ⟨rfl, vcE.ex (by simp only [exC, exOps, exOp, wantedE, ↓reduceIte, ROp.run, evsE, evE, putE, ty]; rfl) ?_⟩
  by_cases hneg : idx p l < 0
  · rw [if_pos hneg] at hj
    have hm1 : idx p l = -1 := by unfold idx at hneg ⊢; split at hneg <;> omega
    have hfl := idx_neg hneg
    refine vcE.ex (by simp (disch := omega) only [exC, exOps, exOp, wantedE, ↓reduceIte, ROp.run, evsE, evE, hm1, ty, putE, same, binA, intA, decide_true, Option.map_some, reduceCtorEq, List.getD_cons_zero]; rfl) ?_
    refine ⟨_, rfl, l, rfl, ?_, hrow, ?_, hj⟩
    · simp only [upd_app, Nat.reduceEqDiff, ↓reduceIte, start_app, List.getD_cons_zero, hfl]
    · rw [hfl, List.take_length]
  · rw [if_neg hneg] at hj
    obtain ⟨i, hi⟩ : ∃ i : Nat, idx p l = i := ⟨(idx p l).toNat, by omega⟩
    rw [hi] at hj ⊢
    rw [Int.toNat_natCast] at hj
    obtain ⟨hil, hr1, hk1⟩ := rowed_first hi
    refine vcE.step (by simp (disch := omega) only [exC, exOps, exOp, wantedE, ↓reduceIte, ROp.run, evsE, evE, ty, putE, same, binA, intA, reduceCtorEq, Option.map_some, List.getD_cons_zero]; rfl) (vcE.then (fun e' tm hp' => e' = .normal ∧ J l.length hp' ∧ hp'[id]? = some (some (.row e (E.cs (rowed p l l.length)))) ∧ tm 0 = .sl id 0 l.length E.sz l.length ex ∧ tm 5 = .int .i64 (kept p l l.length).length) ?_ ?_)
    · refine vcE.step (by simp (disch := omega) only [exC, exOps, exOp, wantedE, ↓reduceIte, ROp.run, evsE, evE, ty, Nat.reduceEqDiff, putE, same, binA, intA, Option.map_some]; rfl) (vcE.block (vcE.count (by intro l tm hp h; simp at h)
        (fun k tm hp' => J (i + 1 + k) hp' ∧ hp'[id]? = some (some (.row e (E.cs (rowed p l (i + 1 + k))))) ∧ tm 0 = .sl id 0 l.length E.sz l.length ex ∧ tm 1 = .func g caps ∧ tm 5 = .int .i64 (kept p l (i + 1 + k)).length ∧ tm 6 = .int .i64 ((i + 1 + k : Nat) : Int)) (l.length - (i + 1)) ⟨hj, ?_, rfl, rfl, ?_, ?_⟩ ?_ ?_))
      · rw [Nat.add_zero, hr1]; exact hrow
      · simp only [upd_app, Nat.reduceEqDiff, ↓reduceIte, Nat.add_zero, hk1]
      · simp only [upd_app, Nat.reduceEqDiff, ↓reduceIte, Nat.add_zero]; rfl
      · rintro k tm hp' hk ⟨hjk, hrk, t0, t1, t5, t6⟩
        obtain ⟨a, ha⟩ : ∃ a, l[i + 1 + k]? = some a := ⟨_, List.getElem?_eq_getElem (by omega)⟩
        have hia : iaddrA E.sz (.sl id 0 l.length E.sz l.length ex) (.int .i64 ((i + 1 + k : Nat) : Int)) = some (.ptr id (0 + (i + 1 + k) * E.sz)) := iaddr_sl (by omega)
        rw [Nat.zero_add] at hia
        have hld := E.sl_load hrk (rowed_get ha)
        have hst := alloc_store (E := E) (hp := hp') (e := e0) (Z := E.c z) (a := a) (E.len z)
        have hkl := kept_le p l (i + 1 + k)
        refine vcE.step (by simp (disch := omega) only [exC, exOps, exOp, wantedE, ↓reduceIte, ROp.run, evsE, evE, t6, putE, ty, reduceCtorEq, t0, tz, same, Option.map_some, Nat.reduceEqDiff, binA, intA, dec_true]; rfl) (vcE.seq (vcE.block (vcE.step (by simp (disch := omega) only [exC, exOps, exOp, wantedE, ↓reduceIte, ROp.run, evsE, evE, ty, reduceCtorEq, t0, putE, Nat.reduceEqDiff, t6, same, hia, Option.map_some, ↓hld, allocA, ↓hst]; rfl) ?_)))
        have hnew : loadA (hp' ++ [some (.row e0 (E.c a))]) (some E.sz) (.ptr hp'.length 0) = some (.agg (E.c a)) := by
          have := E.sl_load (hp := hp' ++ [some (.row e0 (E.c a))]) (id := hp'.length) (e := e0) (l := [a]) (i := 0) (a := a) (by simp [Enc.cs]) rfl
          simpa using this
        rw [show ([⟨some 26, .op (.mov), [.t 1], none⟩, ⟨some 27, .op (.load (some E.sz)), [.t 7], none⟩, ⟨some 28, .call none, [.t 26, .t 27], none⟩, ⟨some 29, .op (.un .not), [.t 28], none⟩] : List IOp) = [⟨some 26, .op (.mov), [.t 1], none⟩, ⟨some 27, .op (.load (some E.sz)), [.t 7], none⟩] ++ ([⟨some 28, .call none, [.t 26, .t 27], none⟩] ++ [⟨some 29, .op (.un .not), [.t 28], none⟩]) from rfl]
        refine vcE.seq (vcE.app (vcE.ex (by simp only [exC, exOps, exOp, wantedE, ↓reduceIte, ROp.run, evsE, evE, ty, Nat.reduceEqDiff, t1, putE, same, ↓hnew, Option.map_some]; rfl) ⟨rfl, vcE.app (vcE.call (f := g) (caps := caps) (ys := [.agg (E.c a)]) rfl ?_ (hA.callB _ a hp' _ _ ha hjk hrk) ?_)⟩))
        · simp only [evsE, evE, upd_app, Nat.reduceEqDiff, ↓reduceIte]
        rintro r hp2 ⟨rfl, hj2, hr2, hv2⟩
        refine ⟨rfl, vcE.ex (by simp only [exC, exOps, exOp, wantedE, ↓reduceIte, ROp.run, evsE, evE, putE, ty, same, unA, Option.map_some]; rfl) ?_⟩
        cases hpa : p a
        · refine vcE.condTrue (by simp only [evE, upd_app, ↓reduceIte, Bool.not_false]) ?_
          have hld2 : loadA hp2 (some E.sz) (.ptr hp'.length 0) = some (.agg (E.c a)) := by
            have := E.sl_load (hp := hp2) (id := hp'.length) (e := e0) (l := [a]) (i := 0) (a := a) (by simpa [Enc.cs] using hv2) rfl
            simpa using this
          have hia2 : iaddrA E.sz (.sl id 0 l.length E.sz l.length ex) (.int .i64 ((kept p l (i + 1 + k)).length : Int)) = some (.ptr id (0 + (kept p l (i + 1 + k)).length * E.sz)) := iaddr_sl (by omega)
          rw [Nat.zero_add] at hia2
          have hst2 := E.sl_store hr2 (i := (kept p l (i + 1 + k)).length) (by rw [rowed_len]; omega) (b := a) (v := .agg (E.c a)) rfl (by simp)
          rw [rowed_keep ha hpa] at hst2
          refine vcE.ex (by simp (disch := omega) only [exC, exOps, exOp, wantedE, ↓reduceIte, ROp.run, evsE, evE, ty, reduceCtorEq, t0, putE, Nat.reduceEqDiff, t5, same, ↓hld2, Option.map_some, ↓hia2, ↓hst2, binA, intA]; rfl) ?_
          refine vcE.ex (by simp (disch := omega) only [exC, exOps, exOp, wantedE, ↓reduceIte, ROp.run, evsE, evE, ty, Nat.reduceEqDiff, t6, putE, same, binA, intA, Option.map_some]; rfl) ?_
          refine ⟨?_, set_get hr2, ?_, ?_, ?_, ?_⟩
          · rw [← Nat.add_assoc]; exact hA.set _ _ _ hj2
          · simp only [upd_app, Nat.reduceEqDiff, ↓reduceIte, t0]
          · simp only [upd_app, Nat.reduceEqDiff, ↓reduceIte, t1]
          · simp only [upd_app, Nat.reduceEqDiff, ↓reduceIte, ← Nat.add_assoc, kept_step ha, hpa, Bool.false_eq_true, List.length_append, List.length_cons, List.length_nil]
            rfl
          · simp only [upd_app, Nat.reduceEqDiff, ↓reduceIte]; rfl
        · refine vcE.condFalse (by simp only [evE, upd_app, ↓reduceIte, Bool.not_true]) (vcE.ex (by simp only [exC]; rfl) ?_)
          refine vcE.ex (by simp (disch := omega) only [exC, exOps, exOp, wantedE, ↓reduceIte, ROp.run, evsE, evE, ty, Nat.reduceEqDiff, t6, putE, same, binA, intA, Option.map_some]; rfl) ?_
          refine ⟨?_, ?_, ?_, ?_, ?_, ?_⟩
          · rw [← Nat.add_assoc]; exact hj2
          · rw [← Nat.add_assoc, rowed_drop ha hpa]; exact hr2
          · simp only [upd_app, Nat.reduceEqDiff, ↓reduceIte, t0]
          · simp only [upd_app, Nat.reduceEqDiff, ↓reduceIte, t1]
          · simp only [upd_app, Nat.reduceEqDiff, ↓reduceIte, ← Nat.add_assoc, kept_step ha, hpa, if_true, List.append_nil, t5]
          · simp only [upd_app, Nat.reduceEqDiff, ↓reduceIte]; rfl
      · rintro tm hp' ⟨hjk, hrk, t0, t1, t5, t6⟩
        rw [show i + 1 + (l.length - (i + 1)) = l.length by omega] at hjk hrk t5 t6
        refine vcE.ex (by simp (disch := omega) only [exC, exOps, exOp, wantedE, ↓reduceIte, ROp.run, evsE, evE, t6, putE, ty, reduceCtorEq, t0, tz, same, Option.map_some, Nat.reduceEqDiff, binA, intA, dec_false]; rfl) ?_
        refine ⟨rfl, hjk, hrk, ?_, ?_⟩
        · simp only [upd_app, Nat.reduceEqDiff, ↓reduceIte, t0]
        · simp only [upd_app, Nat.reduceEqDiff, ↓reduceIte, t5]
    · rintro e' tm hp' ⟨rfl, hjl, hrl, t0, t5⟩
      have hkl := kept_le p l l.length
      have hrow2 := rowed_len p l l.length
      have s1 : sliceA E.sz (.sl id 0 l.length E.sz l.length ex) (some (.int .i64 ((kept p l l.length).length : Int))) none none = _ := slice_lo (by omega) (Nat.le_refl _)
      rw [Nat.zero_add] at s1
      have s2 := E.sl_clear (z := z) (ex := ex) (m := l.length - (kept p l l.length).length) (i := (kept p l l.length).length) (n := l.length - (kept p l l.length).length) hrl (by omega)
      have s3 : sliceA E.sz (.sl id 0 l.length E.sz l.length ex) none (some (.int .i64 ((kept p l l.length).length : Int))) none = _ := slice_hi (by omega)
      have hlt := get_lt hrl
      refine vcE.ex (by simp (disch := omega) only [exC, exOps, exOp, wantedE, ↓reduceIte, ROp.run, evsE, evE, t0, putE, ty, Nat.reduceEqDiff, t5, bounds3, tz, same, ↓s1, Option.map_some, ↓s2, reduceCtorEq, ↓s3]; rfl) ?_
      refine ⟨_, rfl, _, ?_, ?_, set_get hrl, ?_, hA.set _ _ _ hjl⟩
      · simp only [List.length_append, List.length_take, List.length_replicate, List.length_drop, hrow2]
        omega
      · simp only [upd_app, Nat.reduceEqDiff, ↓reduceIte, kept_all]
      · rw [← kept_all, List.append_assoc, List.take_append_of_le_length (by rw [List.length_take, hrow2]; omega), List.take_take, Nat.min_self, rowed, List.take_left]

end Go.Gi
