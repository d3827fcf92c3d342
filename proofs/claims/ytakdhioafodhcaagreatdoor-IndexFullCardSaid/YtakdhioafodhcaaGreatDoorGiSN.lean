/- slices.Grow of nil, and slices.Concat, as compiled, for elements of any one kind. -/
import Derived.Test.YtakdhioafodhcaaGreatDoorGiSM
set_option linter.unusedVariables false
set_option linter.unusedSimpArgs false
set_option linter.unusedSectionVars false
namespace Go.Gi
open Go

variable {α : Type}

abbrev growC (e : TypeId) (sz bytes : Nat) (Z : List AV) (t9 : TypeId) (msg : List UInt8) : IC := (IC.seq (IC.reg [⟨some 4, .op (.mov), [.c (.nils)], none⟩]) (IC.seq (IC.seq (IC.reg [⟨some 5, .op (.mov), [.t 1], none⟩,
  ⟨some 6, .op (.bin .lss .prim), [.t 5, .c (.int .i64 0)], none⟩]) (IC.cond (.t 6) (IC.reg [⟨some 7, .op (.mkif t9), [.c (.str msg)], none⟩,
  ⟨none, .op (.never), [], none⟩]) IC.skip)) (IC.seq (IC.seq (IC.reg [⟨some 8, .op (.mov), [.t 1], none⟩,
  ⟨some 9, .op (.mov), [.t 0], none⟩,
  ⟨some 10, .op (.cap), [.t 9], none⟩,
  ⟨some 11, .op (.mov), [.t 0], none⟩,
  ⟨some 12, .op (.len .slice), [.t 11], none⟩,
  ⟨some 13, .op (.bin .sub .prim), [.t 10, .t 12], none⟩,
  ⟨some 14, .op (.bin .sub .prim), [.t 8, .t 13], none⟩,
  ⟨some 1, .op (.mov), [.t 14], none⟩]) (IC.seq (IC.reg [⟨some 15, .op (.mov), [.t 1], none⟩,
  ⟨some 16, .op (.bin .gtr .prim), [.t 15, .c (.int .i64 0)], none⟩]) (IC.cond (.t 16) (IC.reg [⟨some 17, .op (.mov), [.t 0], none⟩,
  ⟨some 18, .op (.mov), [.t 0], none⟩,
  ⟨some 19, .op (.cap), [.t 18], none⟩,
  ⟨some 20, .op (.slice sz false true false), [.t 17, .t 19], none⟩,
  ⟨some 21, .op (.mov), [.t 1], none⟩,
  ⟨some 22, .op (.appz e Z bytes), [.t 20, .t 21], none⟩,
  ⟨some 23, .op (.mov), [.t 0], none⟩,
  ⟨some 24, .op (.len .slice), [.t 23], none⟩,
  ⟨some 25, .op (.slice sz false true false), [.t 22, .t 24], none⟩,
  ⟨some 0, .op (.mov), [.t 25], none⟩]) IC.skip))) (IC.seq (IC.reg [⟨some 26, .op (.mov), [.t 0], none⟩,
  ⟨some 4, .op (.mov), [.t 26], none⟩]) IC.ret))))
def growR (E : Enc α) (e : TypeId) (z : α) (n k : Nat) : AV × HP := if n = 0 then (.nils, []) else (.sl k 0 0 E.sz n false, [some (.row e (E.cs (List.replicate n z)))])
theorem grow_calls {P : Program} (hm : P.follows .mixedOrders = true) {hint : Nat → Nat} {f : FuncId} (E : Enc α) {e t9 : TypeId} {bytes : Nat} {msg : List UInt8} (z : α) (hf : compF P hint f = some ⟨growC e E.sz bytes (E.c z) t9 msg, 27, [.t 4]⟩) {n : Nat} (hb : n * bytes ≤ 140737488355328) (hn : n ≤ 4611686018427387904) (hp : HP) :
    ACalls P f [.nils, .int .i64 n] hp fun r hp' => r = (growR E e z n hp.length).1 ∧ hp' = hp ++ (growR E e z n hp.length).2 := by
  refine calls_e hm (TabOk.none _) hf (by rfl) (by simp) ?_
  have w1 : IntKind.wrap .i64 ((0 : Int) - 0) = 0 := by decide
  have w2 : IntKind.wrap .i64 ((n : Int) - 0) = n := by rw [Int.sub_zero]; exact wrap_i64 (by omega) (by omega)
  have hn0 : ¬ ((n : Int) < 0) := by omega
  by_cases h0 : n = 0
  · subst h0
    refine vcE.ex (by simp (disch := first | assumption | omega) only [go_sem, ↓reduceIte, Nat.reduceEqDiff, reduceCtorEq, Nat.reduceAdd, capA, w1, w2, Int.natCast_zero, Int.lt_irrefl]; rfl) ?_
    exact ⟨_, rfl, rfl, by simp [growR]⟩
  · have hgt : ((n : Int) > 0) := by omega
    have hz : appzA e (E.c z) bytes hp .nils (.int .i64 n) = some (.sl hp.length 0 n E.sz n false, hp ++ [some (.row e (E.cs (List.replicate n z)))]) := by
      simp only [appzA, emptyA, if_true]
      rw [if_pos ⟨by omega, by simpa using hb, by omega⟩, Int.toNat_natCast, if_neg h0, E.len, E.zeros]
    have s0 : sliceA E.sz .nils none (some (.int .i64 (0 : Int))) none = some .nils := by simp [sliceA, bndA, cutA]
    have s1 : sliceA E.sz (.sl hp.length 0 n E.sz n false) none (some (.int .i64 (0 : Int))) none = some (.sl hp.length 0 0 E.sz n false) := slice_hi (h := 0) (by omega)
    refine vcE.ex (by simp (disch := first | assumption | omega) only [go_sem, ↓reduceIte, Nat.reduceEqDiff, reduceCtorEq, Nat.reduceAdd, capA, w1, w2, ↓hz, ↓s0, ↓s1]; rfl) ?_
    refine ⟨_, rfl, ?_, ?_⟩
    · simp only [growR, if_neg h0]
      rfl
    · simp only [growR, if_neg h0]

abbrev concatB1 (t9 : TypeId) (msg : List UInt8) : IC := (IC.seq (IC.reg [⟨some 12, .op (.bin .lss .prim), [.t 11, .t 10], none⟩]) (IC.seq (IC.cond (.t 12) IC.skip (IC.exit 0)) (IC.seq (IC.block 1 (IC.seq (IC.reg [⟨some 13, .op (.iaddr 1), [.t 9, .t 11], none⟩,
  ⟨some 14, .op (.load none), [.t 13], none⟩,
  ⟨some 5, .op (.mov), [.t 14], none⟩]) (IC.seq (IC.reg [⟨some 15, .op (.mov), [.t 3], none⟩,
  ⟨some 16, .op (.mov), [.t 5], none⟩,
  ⟨some 17, .op (.len .slice), [.t 16], none⟩,
  ⟨some 18, .op (.bin .add .prim), [.t 15, .t 17], none⟩,
  ⟨some 3, .op (.mov), [.t 18], none⟩]) (IC.seq (IC.reg [⟨some 19, .op (.mov), [.t 3], none⟩,
  ⟨some 20, .op (.bin .lss .prim), [.t 19, .c (.int .i64 0)], none⟩]) (IC.cond (.t 20) (IC.reg [⟨some 21, .op (.mkif t9), [.c (.str msg)], none⟩,
  ⟨none, .op (.never), [], none⟩]) IC.skip))))) (IC.reg [⟨some 22, .op (.bin .add .prim), [.t 11, .c (.int .i64 1)], none⟩,
  ⟨some 11, .op (.mov), [.t 22], none⟩]))))
abbrev concatB2 (e : TypeId) (sz bytes : Nat) : IC := (IC.seq (IC.reg [⟨some 28, .op (.bin .lss .prim), [.t 27, .t 26], none⟩]) (IC.seq (IC.cond (.t 28) IC.skip (IC.exit 2)) (IC.seq (IC.block 3 (IC.seq (IC.reg [⟨some 29, .op (.iaddr 1), [.t 25, .t 27], none⟩,
  ⟨some 30, .op (.load none), [.t 29], none⟩,
  ⟨some 8, .op (.mov), [.t 30], none⟩]) (IC.reg [⟨some 31, .op (.mov), [.t 6], none⟩,
  ⟨some 32, .op (.mov), [.t 8], none⟩,
  ⟨some 33, .op (.app e sz bytes), [.t 31, .t 32], none⟩,
  ⟨some 6, .op (.mov), [.t 33], none⟩]))) (IC.reg [⟨some 34, .op (.bin .add .prim), [.t 27, .c (.int .i64 1)], none⟩,
  ⟨some 27, .op (.mov), [.t 34], none⟩]))))
abbrev concatC (g : FuncId) (e : TypeId) (sz bytes : Nat) (t9 : TypeId) (msg : List UInt8) : IC := (IC.seq (IC.reg [⟨some 2, .op (.mov), [.c (.nils)], none⟩]) (IC.seq (IC.reg [⟨some 3, .op (.mov), [.c (.int .i64 0)], none⟩]) (IC.seq (IC.seq (IC.reg [⟨some 9, .op (.mov), [.t 0], none⟩,
  ⟨some 10, .op (.len .slice), [.t 9], none⟩,
  ⟨some 11, .op (.mov), [.c (.int .i64 0)], none⟩]) (IC.block 0 (IC.loop (concatB1 t9 msg)))) (IC.seq (IC.reg [⟨some 23, .op (.mov), [.t 3], none⟩,
  ⟨some 24, .call none, [.f g, .c (.nils), .t 23], none⟩,
  ⟨some 6, .op (.mov), [.t 24], none⟩]) (IC.seq (IC.seq (IC.reg [⟨some 25, .op (.mov), [.t 0], none⟩,
  ⟨some 26, .op (.len .slice), [.t 25], none⟩,
  ⟨some 27, .op (.mov), [.c (.int .i64 0)], none⟩]) (IC.block 2 (IC.loop (concatB2 e sz bytes)))) (IC.seq (IC.reg [⟨some 35, .op (.mov), [.t 6], none⟩,
  ⟨some 2, .op (.mov), [.t 35], none⟩]) IC.ret))))))

/-- What was put together so far, in a row of so many elements. -/
def catV (N sz k i : Nat) : AV := if N = 0 then .nils else .sl k 0 i sz N false
def catH (E : Enc α) (e : TypeId) (z : α) (N : Nat) (l : List α) : HP := if N = 0 then [] else [some (.row e (E.cs (l ++ List.replicate (N - l.length) z)))]
theorem cat_app (E : Enc α) (e : TypeId) (z : α) {bytes N : Nat} {hp : HP} {l m : List α} {x : AV} (hx : srcA (hp ++ catH E e z N l) E.sz x = some (E.cs m, m.length)) (hN : l.length + m.length ≤ N) :
    appA e E.sz bytes (hp ++ catH E e z N l) (catV N E.sz hp.length l.length) x = some (catV N E.sz hp.length (l ++ m).length, hp ++ catH E e z N (l ++ m)) := by
  by_cases h0 : N = 0
  · subst h0
    have hm : m = [] := List.eq_nil_of_length_eq_zero (by omega)
    subst hm
    simp only [catV, catH, if_true, List.append_nil] at hx ⊢
    simp [appA, hx, Enc.cs]
  · simp only [catV, catH, if_neg h0] at hx ⊢
    by_cases hm : m.length = 0
    · have := List.eq_nil_of_length_eq_zero hm
      subst this
      simp [appA, hx]
    · have hg : (hp ++ [some (Blk.row e (E.cs (l ++ List.replicate (N - l.length) z)))])[hp.length]? = some (some (.row e (E.cs (l ++ List.replicate (N - l.length) z)))) := by simp
      have hlen : (l ++ List.replicate (N - l.length) z).length = N := by simp; omega
      have h1 : l.length * E.sz ≤ N * E.sz := Nat.mul_le_mul_right _ (by omega)
      have h2 : (l.length + m.length) * E.sz ≤ N * E.sz := Nat.mul_le_mul_right _ hN
      simp only [appA, hx, hg]
      rw [if_neg hm, if_pos ⟨trivial, by rw [E.cs_len, hlen]; omega⟩, if_pos hN, if_pos (by rw [E.cs_len, hlen]; omega), Nat.zero_add, E.over_mid (by rw [hlen]; exact hN), set_concat]
      rw [List.take_left, List.drop_append, List.drop_eq_nil_of_le (as := l) (by omega), List.nil_append, List.drop_replicate, List.length_append, show N - l.length - (l.length + m.length - l.length) = N - (l.length + m.length) by omega]

theorem concat_calls {P : Program} (hm : P.follows .mixedOrders = true) {hint hint' : Nat → Nat} {f g : FuncId} (E : Enc α) {e t9 t8 : TypeId} {bytes : Nat} {msg msg' : List UInt8} (z : α) (hf : compF P hint f = some ⟨concatC g e E.sz bytes t9 msg, 36, [.t 2]⟩) (hfg : compF P hint' g = some ⟨growC e E.sz bytes (E.c z) t8 msg', 27, [.t 4]⟩)
    {hp : HP} {id lo : Nat} {ex : Bool} {e1 : TypeId} {xs : List AV} {ls : List (List α)} (hrow : hp[id]? = some (some (.row e1 xs))) (hlen : xs.length = ls.length) (hone : ∀ x ∈ xs, oneA x = true)
    (hsrc : ∀ (i : Nat) (x : AV) (l : List α), xs[i]? = some x → ls[i]? = some l → lenFits .slice x = true ∧ (∀ hp, lenA hp x = some (.int .i64 l.length)) ∧ ∀ new, srcA (hp ++ new) E.sz x = some (E.cs l, l.length)) (hb : ls.flatten.length * bytes ≤ 140737488355328) (hn : ls.flatten.length ≤ 4611686018427387904) (hx : xs.length ≤ 4611686018427387904) :
    ACalls P f [.sl id 0 xs.length 1 lo ex] hp fun r hp' => r = catV ls.flatten.length E.sz hp.length ls.flatten.length ∧ hp' = hp ++ catH E e z ls.flatten.length ls.flatten := by
  refine calls_e hm (TabOk.none _) hf (by rfl) (by simp) ?_
  have tk : ∀ i, ((ls.take i).flatten).length ≤ ls.flatten.length := fun i => by
    have h := congrArg (fun l : List (List α) => l.flatten.length) (List.take_append_drop i ls)
    simp only [List.flatten_append, List.length_append] at h
    omega
  have stp : ∀ i l, ls[i]? = some l → (ls.take (i + 1)).flatten = (ls.take i).flatten ++ l := fun i l h => by
    rw [List.take_add_one, h]
    simp
  have ldx : ∀ new i x, xs[i]? = some x → loadA (hp ++ new) none (.ptr id i) = some x := fun new i x h => by
    simp only [loadA, rowA, app_get hrow, pickA, h, hone x (List.mem_of_getElem? h), if_true]
  refine vcE.step (by simp only [go_sem, ↓reduceIte, Nat.reduceEqDiff, reduceCtorEq, Nat.reduceAdd]; rfl) (vcE.step (by simp only [go_sem, ↓reduceIte, Nat.reduceEqDiff, reduceCtorEq, Nat.reduceAdd]; rfl) (vcE.then (fun e' tm hp' => e' = .normal ∧ hp' = hp ∧ tm 0 = .sl id 0 xs.length 1 lo ex ∧ tm 3 = .int .i64 ls.flatten.length) ?_ ?_))
  · refine vcE.step (by simp only [go_sem, ↓reduceIte, Nat.reduceEqDiff, reduceCtorEq, Nat.reduceAdd]; rfl) (vcE.block (vcE.count (by intro l tm hp h; simp at h)
      (fun i tm hp' => hp' = hp ∧ tm 0 = .sl id 0 xs.length 1 lo ex ∧ tm 9 = .sl id 0 xs.length 1 lo ex ∧ tm 10 = .int .i64 xs.length ∧ tm 11 = .int .i64 i ∧ tm 3 = .int .i64 ((ls.take i).flatten).length) xs.length ⟨rfl, rfl, rfl, rfl, rfl, rfl⟩ ?_ ?_))
    · rintro i tm hp' hi ⟨rfl, t0, t9, t10, t11, t3⟩
      obtain ⟨x, hxi⟩ : ∃ x, xs[i]? = some x := ⟨_, List.getElem?_eq_getElem hi⟩
      obtain ⟨l, hli⟩ : ∃ l, ls[i]? = some l := ⟨_, List.getElem?_eq_getElem (by omega)⟩
      obtain ⟨q1, q2, q3⟩ := hsrc i x l hxi hli
      have hia : iaddrA 1 (.sl id 0 xs.length 1 lo ex) (.int .i64 i) = some (.ptr id i) := iaddr_sl1 hi
      have hld := ldx [] i x hxi
      rw [List.append_nil] at hld
      have h1 := tk (i + 1)
      have h2 := stp i l hli
      have h3 : ((ls.take (i + 1)).flatten).length = ((ls.take i).flatten).length + l.length := by rw [h2, List.length_append]
      have hw : IntKind.wrap .i64 ((((ls.take i).flatten).length : Int) + (l.length : Int)) = ((((ls.take (i + 1)).flatten).length : Nat) : Int) := by rw [h3, wrap_i64 (by omega) (by omega)]; rfl
      refine vcE.ex (by simp (disch := omega) only [go_sem, ↓reduceIte, Nat.reduceEqDiff, reduceCtorEq, Nat.reduceAdd, t9, t10, t11, t3, hia, ↓hld, q1, q2, hw]; rfl) ?_
      refine ⟨rfl, ?_, ?_, ?_, ?_, ?_⟩
      all_goals simp only [upd_app, Nat.reduceEqDiff, ↓reduceIte, t0, t9, t10]
      rfl
    · rintro tm hp' ⟨rfl, t0, t9, t10, t11, t3⟩
      refine vcE.ex (by simp (disch := omega) only [go_sem, ↓reduceIte, Nat.reduceEqDiff, reduceCtorEq, Nat.reduceAdd, t10, t11]; rfl) ?_
      refine ⟨rfl, rfl, ?_, ?_⟩
      · simp only [upd_app, Nat.reduceEqDiff, ↓reduceIte, t0]
      · rw [hlen, List.take_length] at t3
        simp only [upd_app, Nat.reduceEqDiff, ↓reduceIte, t3]
  · rintro e' tm hp' ⟨rfl, rfl, t0, t3⟩
    rw [show ([⟨some 23, .op (.mov), [.t 3], none⟩, ⟨some 24, .call none, [.f g, .c (.nils), .t 23], none⟩, ⟨some 6, .op (.mov), [.t 24], none⟩] : List IOp) = [⟨some 23, .op (.mov), [.t 3], none⟩] ++ ([⟨some 24, .call none, [.f g, .c (.nils), .t 23], none⟩] ++ [⟨some 6, .op (.mov), [.t 24], none⟩]) from rfl]
    refine vcE.seq (vcE.app (vcE.ex (by simp only [go_sem, ↓reduceIte, Nat.reduceEqDiff, reduceCtorEq, Nat.reduceAdd, t3]; rfl) ⟨rfl, vcE.app (vcE.call (f := g) (caps := []) (ys := [.nils, .int .i64 ls.flatten.length]) rfl rfl (grow_calls hm E z hfg hb hn _) ?_)⟩))
    rintro r hp2 ⟨rfl, rfl⟩
    refine ⟨rfl, vcE.ex (by simp only [go_sem, ↓reduceIte, Nat.reduceEqDiff, reduceCtorEq, Nat.reduceAdd]; rfl) ?_⟩
    have g1 : (growR E e z ls.flatten.length hp'.length).1 = catV ls.flatten.length E.sz hp'.length 0 := by unfold growR catV; split <;> rfl
    have g2 : (growR E e z ls.flatten.length hp'.length).2 = catH E e z ls.flatten.length [] := by unfold growR catH; split <;> simp
    rw [g1, g2]
    refine vcE.then (fun e' tm hp2 => e' = .normal ∧ hp2 = hp' ++ catH E e z ls.flatten.length ls.flatten ∧ tm 6 = catV ls.flatten.length E.sz hp'.length ls.flatten.length) ?_ ?_
    · refine vcE.step (by simp only [go_sem, ↓reduceIte, Nat.reduceEqDiff, reduceCtorEq, Nat.reduceAdd, putE, t0]; rfl) (vcE.block (vcE.count (by intro l tm hp h; simp at h)
        (fun i tm hp2 => hp2 = hp' ++ catH E e z ls.flatten.length (ls.take i).flatten ∧ tm 25 = .sl id 0 xs.length 1 lo ex ∧ tm 26 = .int .i64 xs.length ∧ tm 27 = .int .i64 i ∧ tm 6 = catV ls.flatten.length E.sz hp'.length ((ls.take i).flatten).length) xs.length ⟨rfl, ?_, ?_, ?_, ?_⟩ ?_ ?_))
      · simp only [upd_app, Nat.reduceEqDiff, ↓reduceIte]
      · simp only [upd_app, Nat.reduceEqDiff, ↓reduceIte]
      · simp only [upd_app, Nat.reduceEqDiff, ↓reduceIte]; rfl
      · simp only [upd_app, Nat.reduceEqDiff, ↓reduceIte]; rfl
      · rintro i tm hp2 hi ⟨rfl, t25, t26, t27, t6⟩
        obtain ⟨x, hxi⟩ : ∃ x, xs[i]? = some x := ⟨_, List.getElem?_eq_getElem hi⟩
        obtain ⟨l, hli⟩ : ∃ l, ls[i]? = some l := ⟨_, List.getElem?_eq_getElem (by omega)⟩
        obtain ⟨q1, q2, q3⟩ := hsrc i x l hxi hli
        have hia : iaddrA 1 (.sl id 0 xs.length 1 lo ex) (.int .i64 i) = some (.ptr id i) := iaddr_sl1 hi
        have hld := ldx (catH E e z ls.flatten.length (ls.take i).flatten) i x hxi
        have h2 := stp i l hli
        have h3 := tk (i + 1)
        rw [h2, List.length_append] at h3
        have happ := cat_app E e z (bytes := bytes) (q3 (catH E e z ls.flatten.length (ls.take i).flatten)) h3
        rw [← h2] at happ
        refine vcE.ex (by simp (disch := omega) only [go_sem, ↓reduceIte, Nat.reduceEqDiff, reduceCtorEq, Nat.reduceAdd, t25, t26, t27, t6, hia, ↓hld, ↓happ]; rfl) ?_
        refine ⟨rfl, ?_, ?_, ?_, ?_⟩
        all_goals simp only [upd_app, Nat.reduceEqDiff, ↓reduceIte, t25, t26]
        rfl
      · rintro tm hp2 ⟨rfl, t25, t26, t27, t6⟩
        refine vcE.ex (by simp (disch := omega) only [go_sem, ↓reduceIte, Nat.reduceEqDiff, reduceCtorEq, Nat.reduceAdd, t26, t27]; rfl) ?_
        rw [hlen, List.take_length] at t6
        refine ⟨rfl, ?_, ?_⟩
        · rw [hlen, List.take_length]
        · simp only [upd_app, Nat.reduceEqDiff, ↓reduceIte, t6]
    · rintro e' tm hp2 ⟨rfl, rfl, t6⟩
      refine vcE.ex (by simp only [go_sem, ↓reduceIte, Nat.reduceEqDiff, reduceCtorEq, Nat.reduceAdd, t6]; rfl) ?_
      exact ⟨_, rfl, rfl, rfl⟩
end Go.Gi
