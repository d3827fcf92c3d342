/- All operations but calls, in one function; and that each does in the model what it says. -/
import Derived.Test.YtakdhioafodhcaaGreatDoorGiG
set_option linter.unusedVariables false
set_option linter.unusedSimpArgs false
namespace Go.Gi
open Go

/-! ### Binary operations -/
inductive EqK where
  | none | prim | bool | ptr | slice | map | func | iface (cst : Bool) | st (ls : List Leaf)

def isNilA : EqK → AV → Option Bool
  | .ptr, .nilp | .slice, .nils | .map, .nilm | .func, .nilf | .iface _, .nili => some true
  | .ptr, .ptr .. | .ptr, .fptr .. | .slice, .sl .. | .slice, .enn | .map, .map _ | .func, .func .. | .iface _, .iface .. => some false
  | .slice, .fsl _ len => if len = 0 then Option.none else some false
  | _, _ => Option.none

def eqA : EqK → AV → AV → Option Bool
  | .prim, .int k a, .int k' b => if k = k' then some (decide (a = b)) else Option.none
  | .prim, .str a, .str b => some (decide (a = b))
  | .bool, .bool a, .bool b => some (a == b)
  | .st ls, .agg as, .agg bs => leavesEq ls as bs
  | .iface false, .nili, .nili => Option.none
  | K, x, y => match isNilA K x, isNilA K y with
    | some true, some q => some q
    | some false, some true => some false
    | _, _ => Option.none

def bitsA (op : BinOp) (k : IntKind) (x y : Int) : Option Int :=
  let a := BitVec.ofInt k.bits x
  let b := BitVec.ofInt k.bits y
  match op with
  | .and => some (k.wrap (a &&& b).toNat)
  | .or => some (k.wrap (a ||| b).toNat)
  | .xor => some (k.wrap (a ^^^ b).toNat)
  | .andNot => some (k.wrap (a &&& ~~~b).toNat)
  | _ => Option.none

/-- Whole numbers of one kind. -/
def intA (op : BinOp) (k : IntKind) (a b : Int) : Option AV :=
  match op with
  | .add => some (.int k (k.wrap (a + b)))
  | .sub => some (.int k (k.wrap (a - b)))
  | .mul => some (.int k (k.wrap (a * b)))
  | .quo => if b = 0 then Option.none else some (.int k (k.wrap (a.tdiv b)))
  | .rem => if b = 0 then Option.none else some (.int k (a.tmod b))
  | .lss => some (.bool (decide (a < b)))
  | .leq => some (.bool (decide (a ≤ b)))
  | .gtr => some (.bool (decide (a > b)))
  | .geq => some (.bool (decide (a ≥ b)))
  | .eql => some (.bool (decide (a = b)))
  | .neq => some (.bool (!decide (a = b)))
  | op => (bitsA op k a b).map (.int k)

def strA (op : BinOp) (a b : List UInt8) : Option AV :=
  match op with
  | .add => if a.length + b.length ≤ 9223372036854775807 then some (.str (a ++ b)) else Option.none
  | .eql => some (.bool (decide (a = b)))
  | .neq => some (.bool (!decide (a = b)))
  | .lss => some (.bool (Op.bytesLess a b))
  | .leq => some (.bool (Op.bytesLess a b || decide (a = b)))
  | .gtr => some (.bool (!(Op.bytesLess a b || decide (a = b))))
  | .geq => some (.bool (!Op.bytesLess a b))
  | _ => Option.none

def binA (op : BinOp) (K : EqK) (x y : AV) : Option AV :=
  match x, y with
  | .int k a, .int k' b =>
    match op with
    | .shl => if b < 0 then Option.none else some (.int k (k.wrap (a * 2 ^ (min b.toNat k.bits))))
    | .shr => if b < 0 then Option.none else some (.int k (a.fdiv (2 ^ (min b.toNat k.bits))))
    | op => if k = k' then intA op k a b else Option.none
  | .str a, .str b => strA op a b
  | x, y =>
    match op with
    | .eql => (eqA K x y).map .bool
    | .neq => (eqA K x y).map fun b => .bool (!b)
    | _ => Option.none

/-- What a type's values are compared as. -/
def eqP (P : Program) (t : TypeId) (cst : Bool) : EqK :=
  match P.underlying t with
  | some .bool => .bool
  | some (.int _) | some .string => .prim
  | some (.pointer _) => .ptr
  | some (.slice _) => .slice
  | some (.map _ _) => .map
  | some (.func _ _ _) => .func
  | some (.interface _) => .iface cst
  | some (.struct _) => if P.eqGuardType P.depth t then .none else match leafP P 12 t with
    | some ls => .st ls
    | Option.none => .none
  | _ => .none

def opIsConst : Operand → Bool
  | .const _ => true
  | _ => false

theorem eqGuard_plain {P : Program} {w : World} {op : BinOp} {t : TypeId} {x y : Operand} {u v : Value} (h : ∀ a, u ≠ .agg a) (h2 : u ≠ .nilIface ∨ v ≠ .nilIface ∨ opIsConst x = true ∨ opIsConst y = true) : (eqGuard op t x y u v).run P w = .ok () w := by
  unfold eqGuard
  cases op <;> simp only [Bool.not_false, if_true, Sem.run_pure, Bool.not_true, Bool.false_eq_true, if_false] <;> try rfl
  all_goals
    cases u <;> cases v <;> simp only [Sem.run_pure, ne_eq, reduceCtorEq, not_true_eq_false, not_false_eq_true, false_or, true_or, or_true] at h2 ⊢ <;> try rfl
    all_goals first
      | exact absurd rfl (h _)
      | (cases x <;> cases y <;> simp [opIsConst] at h2 ⊢)

set_option maxHeartbeats 1000000 in
/-- The values that stand for what is nil, and for what is not. -/
theorem isNilA_run {P : Program} {w : World} {Γ : Cx} {t : TypeId} {cst : Bool} {x y : AV} {u v : Value} {p q : Bool} (hx : VRel Γ x u) (hy : VRel Γ y v) (h1 : isNilA (eqP P t cst) x = some p) (h2 : isNilA (eqP P t cst) y = some q) (h : p = true ∨ q = true) (D : Nat) :
    (Op.equalIn (D + 1) t u v).run P w = .ok (p && q) w ∧ (∀ a, u ≠ .agg a) ∧ (∀ k n, u ≠ .int k n) ∧ (∀ s, u ≠ .string s) ∧ (u = .nilIface → eqP P t cst = .iface cst) ∧ (∀ k n, u ≠ .float k n) ∧ (∀ k n m, u ≠ .complex k n m) := by
  unfold eqP at h1 h2 ⊢
  cases hu : P.underlying t with
  | none => rw [hu] at h1; simp [isNilA] at h1
  | some d =>
    rw [hu] at h1 h2
    cases d <;> simp only at h1 h2 ⊢ <;> try (simp [isNilA] at h1; done)
    case struct fs =>
      split at h1
      · simp [isNilA] at h1
      · split at h1 <;> simp [isNilA] at h1
    all_goals
      cases x <;> simp only [isNilA, reduceCtorEq, Option.some.injEq] at h1 <;> cases y <;> simp only [isNilA, reduceCtorEq, Option.some.injEq] at h2 <;> (first | subst h1 | (split at h1 <;> simp only [reduceCtorEq, Option.some.injEq] at h1; subst h1)) <;> (first | subst h2 | (split at h2 <;> simp only [reduceCtorEq, Option.some.injEq] at h2; subst h2)) <;> simp only [Bool.false_eq_true, or_self, or_false, or_true] at h <;> simp only [VRel] at hx hy
      all_goals first
        | (subst hx; subst hy)
        | (subst hx; obtain ⟨_, _, _, rfl, _⟩ := hy.resolve_left fun h => absurd h.2.1 (by assumption))
        | (subst hy; obtain ⟨_, _, _, rfl, _⟩ := hx.resolve_left fun h => absurd h.2.1 (by assumption))
        | (subst hx; obtain ⟨_, _, _, rfl⟩ := hy)
        | (subst hy; obtain ⟨_, _, _, rfl⟩ := hx)
        | (subst hx; obtain ⟨_, _, rfl, _⟩ := hy)
        | (subst hx; obtain ⟨_, _, _, _, _, rfl, _⟩ := hy)
        | (subst hx; obtain ⟨_, _, _, rfl, _⟩ := hy)
        | (subst hx; obtain ⟨_, rfl⟩ := hy)
        | (subst hx; obtain ⟨_, rfl, _⟩ := hy)
        | (subst hy; obtain ⟨_, _, rfl, _⟩ := hx)
        | (subst hy; obtain ⟨_, _, _, _, _, rfl, _⟩ := hx)
        | (subst hy; obtain ⟨_, _, _, rfl, _⟩ := hx)
        | (subst hy; obtain ⟨_, rfl⟩ := hx)
        | (subst hy; obtain ⟨_, rfl, _⟩ := hx)
      all_goals exact ⟨by simp [Op.equalIn, run_underlying hu], by simp, by simp, by simp, by simp, by simp, by simp⟩

theorem eqA_run {P : Program} {w : World} {Γ : Cx} {t : TypeId} {ox oy : Operand} {x y : AV} {u v : Value} {r : Bool} (hx : VRel Γ x u) (hy : VRel Γ y v) (hni : ∀ k a k' b, ¬ (x = .int k a ∧ y = .int k' b)) (hns : ∀ a b, ¬ (x = .str a ∧ y = .str b))
    (h : eqA (eqP P t (opIsConst ox || opIsConst oy)) x y = some r) :
    (∀ op, (eqGuard op t ox oy u v).run P w = .ok () w) ∧ (binOp .eql t u v).run P w = .ok (.bool r) w ∧ (binOp .neq t u v).run P w = .ok (.bool (!r)) w := by
  have nil : ∀ p q : Bool, isNilA (eqP P t (opIsConst ox || opIsConst oy)) x = some p → isNilA (eqP P t (opIsConst ox || opIsConst oy)) y = some q → (p = true ∨ q = true) → r = (p && q) →
      (eqP P t (opIsConst ox || opIsConst oy) = .iface false → x = .nili → y = .nili → False) →
      (∀ op, (eqGuard op t ox oy u v).run P w = .ok () w) ∧ (binOp .eql t u v).run P w = .ok (.bool r) w ∧ (binOp .neq t u v).run P w = .ok (.bool (!r)) w := by
    intro p q h1 h2 h3 hr hif
    obtain ⟨e1, e2, e3, e4, e5, e6, e7⟩ := isNilA_run (P := P) (w := w) hx hy h1 h2 h3 9999
    refine ⟨fun op => eqGuard_plain e2 ?_, ?_, ?_⟩
    · by_cases hu : u = .nilIface
      · by_cases hv : v = .nilIface
        · right; right
          have hk := e5 hu
          have hxn : x = .nili := by
            cases x <;> simp only [VRel] at hx <;> first | rfl | (rw [hu] at hx; simp [NilS] at hx)
          have hyn : y = .nili := by
            cases y <;> simp only [VRel] at hy <;> first | rfl | (rw [hv] at hy; simp [NilS] at hy)
          cases hc : (opIsConst ox || opIsConst oy) with
          | true => simpa using hc
          | false => rw [hc] at hk hif; exact (hif hk hxn hyn).elim
        · exact .inr (.inl hv)
      · exact .inl hu
    · subst hr
      have hb : binOp .eql t u v = (do pure (.bool (← Op.equal t u v))) := by
        cases u <;> first | exact absurd rfl (e3 _ _) | exact absurd rfl (e4 _) | exact absurd rfl (e6 _ _) | exact absurd rfl (e7 _ _ _) | (cases v <;> rfl)
      rw [hb]
      simp only [Op.equal, Op.maxDepth, Sem.run_bind, e1, Result.andThen_ok, Sem.run_pure]
    · subst hr
      have hb : binOp .neq t u v = (do pure (.bool (!(← Op.equal t u v)))) := by
        cases u <;> first | exact absurd rfl (e3 _ _) | exact absurd rfl (e4 _) | exact absurd rfl (e6 _ _) | exact absurd rfl (e7 _ _ _) | (cases v <;> rfl)
      rw [hb]
      simp only [Op.equal, Op.maxDepth, Sem.run_bind, e1, Result.andThen_ok, Sem.run_pure]
  unfold eqA at h
  split at h
  · exact absurd ⟨rfl, rfl⟩ (hni _ _ _ _)
  · exact absurd ⟨rfl, rfl⟩ (hns _ _)
  · rename_i a b hK
    simp only [Option.some.injEq] at h
    subst h
    have hu : P.underlying t = some .bool := by
      unfold eqP at hK
      split at hK <;> try (cases hK; done)
      · rename_i h; exact h
      · split at hK
        · cases hK
        · split at hK <;> cases hK
    simp only [VRel] at hx hy
    subst hx hy
    have e1 := run_equalIn_bool' w (P := P) 9999 t a b hu
    refine ⟨fun op => eqGuard_plain (by simp) (.inl (by simp)), ?_, ?_⟩ <;> simp only [binOp, Op.equal, Op.maxDepth, Sem.run_bind, e1, Result.andThen_ok, Sem.run_pure]
  · rename_i ls as bs hK
    unfold eqP at hK
    split at hK <;> try (cases hK; done)
    rename_i fs hu
    split at hK
    · cases hK
    · rename_i hg
      split at hK
      · rename_i ls' hl
        simp only [EqK.st.injEq] at hK
        subst hK
        have e1 := leavesEq_run (P := P) (w := w) 12 (10000 - 12) hl hx hy (by simp [ofCells, hu, cellsA]) (by simp [ofCells, hu, cellsA]) (by simpa [cellsA] using h)
        have hx' := hx
        have hy' := hy
        simp only [VRel] at hx' hy'
        obtain ⟨xs, rfl, _⟩ := hx'
        obtain ⟨ys, rfl, _⟩ := hy'
        have e2 : (Op.equalIn 10000 t (.agg ⟨xs⟩) (.agg ⟨ys⟩)).run P w = .ok r w := e1
        refine ⟨fun op => run_eqGuard_agg w op t ox oy ⟨xs⟩ ⟨ys⟩ (by simpa using hg), ?_, ?_⟩ <;> simp only [binOp, Op.equal, Op.maxDepth, Sem.run_bind, e2, Result.andThen_ok, Sem.run_pure]
      · cases hK
  · cases h
  · rename_i h0 h1 h2 h3 h4
    split at h
    · rename_i q k1 k2
      simp only [Option.some.injEq] at h
      subst h
      refine nil true q k1 k2 (.inl rfl) (by simp) (fun a b c => ?_)
      exact h4 a b c
    · rename_i k1 k2
      simp only [Option.some.injEq] at h
      subst h
      refine nil false true k1 k2 (.inr rfl) (by simp) (fun a b c => ?_)
      exact h4 a b c
    · cases h

theorem bin_ok {P : Program} {Γ : Cx} {hp : HP} (h : HSim Γ hp) {op : BinOp} {t : TypeId} {ox oy : Operand} {x y r : AV} {u v : Value} (hx : VRel Γ x u) (hy : VRel Γ y v) (hr : binA op (eqP P t (opIsConst ox || opIsConst oy)) x y = some r) :
    OpOk P Γ hp (do eqGuard op t ox oy u v; binOp op t u v) r hp := by
  have close : ∀ z : Value, (∀ op, (eqGuard op t ox oy u v).run P Γ.w = .ok () Γ.w) → (binOp op t u v).run P Γ.w = .ok z Γ.w → VRel Γ r z → OpOk P Γ hp (do eqGuard op t ox oy u v; binOp op t u v) r hp := by
    intro z h1 h2 h3
    exact OpOk.same h (by simp only [Sem.run_bind, h1, Result.andThen_ok, h2]) h3
  unfold binA at hr
  split at hr
  · rename_i k a k' b
    simp only [VRel] at hx hy
    subst hx hy
    have hg : ∀ op, (eqGuard op t ox oy (.int k a) (.int k' b)).run P Γ.w = .ok () Γ.w := fun op => eqGuard_plain (by simp) (.inl (by simp))
    split at hr
    · split at hr
      · cases hr
      · rename_i h0
        simp only [Option.some.injEq] at hr; subst hr
        exact close _ hg (by simp [binOp, Op.shift, h0]; rfl) (by simp [VRel])
    · split at hr
      · cases hr
      · rename_i h0
        simp only [Option.some.injEq] at hr; subst hr
        exact close _ hg (by simp [binOp, Op.shift, h0]; rfl) (by simp [VRel])
    · rename_i h1 h2
      split at hr
      · rename_i hk
        subst hk
        have hop : binOp op t (.int k a) (.int k b) = match op with
            | .add | .sub | .mul => Op.intArith op k a b
            | .quo | .rem => Op.intDiv op k a b
            | .and | .or | .xor | .andNot => Op.intBits op k a b
            | _ => Op.intCmp op a b := by
          cases op <;> first | exact absurd rfl h1 | exact absurd rfl h2 | simp [binOp]
        have hbi : (a == b) = decide (a = b) := rfl
        unfold intA at hr
        cases op <;> simp only at hop hr <;> first | exact absurd rfl h1 | exact absurd rfl h2 | skip
        case quo =>
          split at hr
          · cases hr
          · rename_i h0
            simp only [Option.some.injEq] at hr; subst hr
            exact close _ hg (by rw [hop]; simp [Op.intDiv, h0]; rfl) (by simp [VRel])
        case rem =>
          split at hr
          · cases hr
          · rename_i h0
            simp only [Option.some.injEq] at hr; subst hr
            exact close _ hg (by rw [hop]; simp [Op.intDiv, h0]; rfl) (by simp [VRel])
        all_goals
          first
          | (simp only [Option.some.injEq] at hr; subst hr; exact close _ hg (by rw [hop]; first | rfl | (simp only [Op.intArith, Sem.run_pure]; rfl) | (simp only [Op.intCmp, Sem.run_pure]; rfl)) (by simp [VRel, bne, hbi]))
          | (simp only [bitsA, Option.map_some, Option.some.injEq] at hr; subst hr; exact close _ hg (by rw [hop]; simp only [Op.intBits, Sem.run_pure]; rfl) (by simp [VRel]))
      · cases hr
  · rename_i a b
    simp only [VRel] at hx hy
    subst hx hy
    have hg : ∀ op, (eqGuard op t ox oy (.string ⟨a.toArray⟩) (.string ⟨b.toArray⟩)).run P Γ.w = .ok () Γ.w := fun op => eqGuard_plain (by simp) (.inl (by simp))
    have hbeq : (a == b) = decide (a = b) := by rw [Bool.eq_iff_iff]; simp
    unfold strA at hr
    cases op <;> simp only [reduceCtorEq] at hr
    case add =>
      split at hr
      · rename_i hl
        simp only [Option.some.injEq] at hr; subst hr
        refine close (.string ⟨(a ++ b).toArray⟩) hg ?_ (by simp [VRel])
        have hn : ¬ (((a.length : Int) + (b.length : Int)) > 9223372036854775807) := by omega
        simp only [binOp, Op.stringOp, byteSize, byteCat]
        rw [if_neg]
        · rfl
        · simp only [Int.natCast_add]
          exact hn
      · cases hr
    all_goals
      simp only [Option.some.injEq] at hr; subst hr
      exact close _ hg (by simp only [binOp, Op.stringOp, byteList, hbeq, Sem.run_pure]; rfl) (by simp [VRel])
  · rename_i hni hns
    have key := fun r' (he : eqA (eqP P t (opIsConst ox || opIsConst oy)) x y = some r') => eqA_run (P := P) (w := Γ.w) (ox := ox) (oy := oy) hx hy (fun k a k' b hh => hni k a k' b hh.1 hh.2) (fun a b hh => hns a b hh.1 hh.2) he
    cases op <;> simp only [reduceCtorEq] at hr
    case eql =>
      cases he : eqA (eqP P t (opIsConst ox || opIsConst oy)) x y with
      | none => simp [he] at hr
      | some r' =>
        simp only [he, Option.map_some, Option.some.injEq] at hr
        subst hr
        obtain ⟨k1, k2, k3⟩ := key r' he
        exact close _ k1 k2 (by simp [VRel])
    case neq =>
      cases he : eqA (eqP P t (opIsConst ox || opIsConst oy)) x y with
      | none => simp [he] at hr
      | some r' =>
        simp only [he, Option.map_some, Option.some.injEq] at hr
        subst hr
        obtain ⟨k1, k2, k3⟩ := key r' he
        exact close _ k1 k3 (by simp [VRel])

end Go.Gi
