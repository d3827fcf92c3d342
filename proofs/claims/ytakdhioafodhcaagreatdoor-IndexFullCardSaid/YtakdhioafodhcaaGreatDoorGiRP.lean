/- Tables by types: what functions give, told by data that the arguments stand for. -/
import Derived.Test.YtakdhioafodhcaaGreatDoorGiQ
set_option linter.unusedVariables false
set_option linter.unusedSimpArgs false
namespace Go.Gi
open Go

variable {α β : Type}

/-- How one value stands for data. -/
structure R1 (α : Type) where
  v : α → AV
  un : AV → Option α
  un_v : ∀ a, un (v a) = some a
  un_some : ∀ x a, un x = some a → x = v a
/-- How arguments stand for data. -/
structure Rp (α : Type) where
  v : α → List AV
  un : List AV → Option α
  un_v : ∀ a, un (v a) = some a
  un_some : ∀ x a, un x = some a → x = v a

def R1.i64 : R1 Int where
  v := .int .i64
  un := fun
    | .int .i64 n => some n
    | _ => none
  un_v _ := rfl
  un_some x a h := by
    split at h
    · cases h; rfl
    · cases h
def R1.int (k : IntKind) : R1 Int where
  v := .int k
  un := fun
    | .int k' n => if k' = k then some n else none
    | _ => none
  un_v _ := if_pos rfl
  un_some x a h := by
    split at h
    · split at h
      · rename_i e; cases h; rw [e]
      · cases h
    · cases h
def R1.bool : R1 Bool where
  v := .bool
  un := fun
    | .bool b => some b
    | _ => none
  un_v _ := rfl
  un_some x a h := by
    split at h
    · cases h; rfl
    · cases h
def R1.str : R1 (List UInt8) where
  v := .str
  un := fun
    | .str s => some s
    | _ => none
  un_v _ := rfl
  un_some x a h := by
    split at h
    · cases h; rfl
    · cases h
/-- A frozen slice of elements. -/
def R1.S (E : Enc α) : R1 (List α) := ⟨E.S, E.un, E.un_S, fun _ _ h => E.un_some h⟩
/-- A struct. -/
def R1.agg (E : Enc α) : R1 α where
  v a := .agg (E.c a)
  un := fun
    | .agg cs => E.dec cs
    | _ => none
  un_v a := E.dec_c a
  un_some x a h := by
    split at h
    · rw [E.dec_some _ _ h]
    · cases h
/-- A pointer to frozen memory that holds one value. -/
def R1.fp1 (r : R1 α) : R1 α where
  v a := .fptr [r.v a] 0
  un := fun
    | .fptr [x] 0 => r.un x
    | _ => none
  un_v a := r.un_v a
  un_some x a h := by
    split at h
    · rw [r.un_some _ _ h]
    · cases h
def Rp.nil : Rp Unit where
  v _ := []
  un := fun
    | [] => some ()
    | _ => none
  un_v _ := rfl
  un_some x a h := by
    split at h
    · rfl
    · cases h
def Rp.cons (r : R1 α) (s : Rp β) : Rp (α × β) where
  v p := r.v p.1 :: s.v p.2
  un := fun
    | x :: xs => match r.un x, s.un xs with
      | some a, some b => some (a, b)
      | _, _ => none
    | [] => none
  un_v p := by simp only [r.un_v, s.un_v]
  un_some x a h := by
    split at h
    · split at h
      · rename_i h1 h2
        cases h
        rw [r.un_some _ _ h1, s.un_some _ _ h2]
      · cases h
    · cases h
/-- A function with what it captured. -/
def R1.fn (f : FuncId) (s : Rp α) : R1 α where
  v a := .func f (s.v a)
  un := fun
    | .func g cs => if g = f then s.un cs else none
    | _ => none
  un_v a := by show (if f = f then s.un (s.v a) else none) = _; rw [if_pos rfl]; exact s.un_v a
  un_some x a h := by
    split at h
    · split at h
      · rename_i e; rw [s.un_some _ _ h, e]
      · cases h
    · cases h
/-- Data told by other data. -/
def R1.map (r : R1 α) (f : β → α) (g : α → Option β) (hg : ∀ b, g (f b) = some b) (hf : ∀ a b, g a = some b → a = f b) : R1 β where
  v b := r.v (f b)
  un x := (r.un x).bind g
  un_v b := by rw [r.un_v]; exact hg b
  un_some x b h := by
    cases hx : r.un x with
    | none => rw [hx] at h; cases h
    | some a => rw [hx] at h; rw [r.un_some _ _ hx, hf a b h]

def Tab.addR (T : Tab) (f : FuncId) (R : Rp α) (s : α → Res) : Tab := T.add f fun xs => match R.un xs with
  | some a => some (s a)
  | .none => .none
theorem Tab.addR_self (T : Tab) (f : FuncId) (R : Rp α) (s : α → Res) (a : α) : T.addR f R s f (R.v a) = some (s a) := by
  simp only [Tab.addR, Tab.add, if_true, R.un_v]
theorem Tab.addR_ne (T : Tab) (f : FuncId) (R : Rp α) (s : α → Res) {g : FuncId} (h : Nat.beq g f = false) (xs : List AV) : T.addR f R s g xs = T g xs := by
  simp only [Tab.addR, Tab.add]
  rw [if_neg (by rintro rfl; simp at h)]
theorem TabOk.addR {P : Program} {T : Tab} (h : TabOk P T) {f : FuncId} {R : Rp α} {s : α → Res} (hs : ∀ a, (s a).Ok P f (R.v a)) : TabOk P (T.addR f R s) := h.add fun xs r hr => by
  split at hr
  · rename_i a ha
    cases hr
    rw [R.un_some _ _ ha]
    exact hs a
  · cases hr
/-- The same, where not all data will do. -/
def Tab.addO (T : Tab) (f : FuncId) (R : Rp α) (s : α → Option Res) : Tab := T.add f fun xs => match R.un xs with
  | some a => s a
  | .none => .none
theorem Tab.addO_self (T : Tab) (f : FuncId) (R : Rp α) (s : α → Option Res) (a : α) : T.addO f R s f (R.v a) = s a := by
  simp only [Tab.addO, Tab.add, if_true, R.un_v]
theorem TabOk.addO {P : Program} {T : Tab} (h : TabOk P T) {f : FuncId} {R : Rp α} {s : α → Option Res} (hs : ∀ a r, s a = some r → r.Ok P f (R.v a)) : TabOk P (T.addO f R s) := h.add fun xs r hr => by
  split at hr
  · rename_i a ha
    rw [R.un_some _ _ ha]
    exact hs a r hr
  · cases hr

end Go.Gi
