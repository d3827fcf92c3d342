/- Lists of elements of one kind, as slices: frozen, or of our own and perhaps empty. -/
import Derived.Test.YtakdhioafodhcaaGreatDoorGiO
set_option linter.unusedVariables false
set_option linter.unusedSimpArgs false
namespace Go.Gi
open Go

/-- How elements of one kind lie in cells. -/
structure Enc (α : Type) where
  c : α → List AV
  sz : Nat
  pos : 0 < sz
  len : ∀ a, (c a).length = sz
  nd : ∀ a, nidL (c a) = true
  ip : Bool
  pl : ip = true → ∀ a, plainL (c a) = true
  fz : ∀ hp a, frzL hp (c a) = some (c a)
  dec : List AV → Option α
  dec_c : ∀ a, dec (c a) = some a
  dec_some : ∀ cs a, dec cs = some a → cs = c a

variable {α : Type}

def Enc.cs (E : Enc α) : List α → List AV
  | [] => []
  | a :: l => E.c a ++ E.cs l
theorem Enc.cs_len (E : Enc α) : ∀ l : List α, (E.cs l).length = l.length * E.sz
  | [] => by simp [Enc.cs]
  | a :: l => by
    simp only [Enc.cs, List.length_append, E.len, E.cs_len l, List.length_cons, Nat.succ_mul]
    omega
theorem Enc.cs_app (E : Enc α) : ∀ l m : List α, E.cs (l ++ m) = E.cs l ++ E.cs m
  | [], m => rfl
  | a :: l, m => by simp only [List.cons_append, Enc.cs, E.cs_app l m, List.append_assoc]
theorem plainL_app : ∀ {as bs : List AV}, plainL as = true → plainL bs = true → plainL (as ++ bs) = true
  | [], bs, _, h => h
  | a :: as, bs, h, k => by
    simp only [plainL, Bool.and_eq_true, List.cons_append] at h ⊢
    exact ⟨h.1, plainL_app h.2 k⟩
mutual
theorem plain_nid : ∀ {a : AV}, plain a = true → nid a = true
  | .int _ _, _ | .bool _, _ | .str _, _ | .nilp, _ | .nils, _ | .esl, _ | .enn, _ | .nilm, _ | .nilf, _ | .nili, _ | .unk, _ => by simp only [nid]
  | .ptr _ _, h | .sl .., h | .map _, h | .fptr _ _, h | .yld _, h => by simp [plain] at h
  | .fsl cs n, h => by
    simp only [plain, List.isEmpty_iff] at h
    subst h
    rfl
  | .func _ cs, h => by simp only [plain] at h; simp only [nid]; exact plainL_nid h
  | .bound _ cs, h => by simp only [plain] at h; simp only [nid]; exact plainL_nid h
  | .agg cs, h => by simp only [plain] at h; simp only [nid]; exact plainL_nid h
  | .tup cs, h => by simp only [plain] at h; simp only [nid]; exact plainL_nid h
  | .iface _ a, h => by simp only [plain] at h; simp only [nid]; exact plain_nid h
theorem plainL_nid : ∀ {as : List AV}, plainL as = true → nidL as = true
  | [], _ => rfl
  | a :: as, h => by
    simp only [plainL, Bool.and_eq_true] at h
    simp only [nidL, Bool.and_eq_true]
    exact ⟨plain_nid h.1, plainL_nid h.2⟩
end
theorem Enc.cs_plain (E : Enc α) (hi : E.ip = true) : ∀ l : List α, plainL (E.cs l) = true
  | [] => rfl
  | a :: l => plainL_app (E.pl hi a) (E.cs_plain hi l)
theorem nidL_app : ∀ {as bs : List AV}, nidL as = true → nidL bs = true → nidL (as ++ bs) = true
  | [], bs, _, h => h
  | a :: as, bs, h, k => by
    simp only [nidL, Bool.and_eq_true, List.cons_append] at h ⊢
    exact ⟨h.1, nidL_app h.2 k⟩
theorem Enc.cs_nid (E : Enc α) : ∀ l : List α, nidL (E.cs l) = true
  | [] => rfl
  | a :: l => nidL_app (E.nd a) (E.cs_nid l)
theorem Enc.cs_drop (E : Enc α) : ∀ (l : List α) (i : Nat), (E.cs l).drop (i * E.sz) = E.cs (l.drop i)
  | [], i => by simp [Enc.cs]
  | a :: l, 0 => by simp
  | a :: l, i + 1 => by
    simp only [Enc.cs, List.drop_succ_cons, Nat.succ_mul]
    rw [Nat.add_comm, ← List.drop_drop, ← E.len a, List.drop_left, E.len a]
    exact E.cs_drop l i
theorem Enc.cs_take (E : Enc α) : ∀ (l : List α) (i : Nat), (E.cs l).take (i * E.sz) = E.cs (l.take i)
  | [], i => by simp [Enc.cs]
  | a :: l, 0 => by simp [Enc.cs]
  | a :: l, i + 1 => by
    simp only [Enc.cs, List.take_succ_cons, Nat.succ_mul]
    rw [Nat.add_comm, List.take_append, E.len a, Nat.add_sub_cancel_left, E.cs_take l i, List.take_of_length_le (by rw [E.len a]; omega)]
theorem Enc.cs_at (E : Enc α) {l : List α} {i : Nat} {a : α} (h : l[i]? = some a) : (E.cs l).drop (i * E.sz) = E.c a ++ E.cs (l.drop (i + 1)) := by
  obtain ⟨h1, h2⟩ := List.getElem?_eq_some_iff.1 h
  rw [E.cs_drop, List.drop_eq_getElem_cons h1, h2]
  rfl
theorem Enc.cs_ne (E : Enc α) {l : List α} (h : l ≠ []) : E.cs l ≠ [] := by
  cases l with
  | nil => exact absurd rfl h
  | cons a l =>
    intro h2
    have := congrArg List.length h2
    simp only [Enc.cs, List.length_append, E.len, List.length_nil] at this
    have := E.pos
    omega

/-- An element, loaded. -/
theorem Enc.pick (E : Enc α) {l : List α} {i : Nat} {a : α} (h : l[i]? = some a) : pickA (some E.sz) (E.cs l) (i * E.sz) = some (.agg (E.c a)) := by
  have hl := (List.getElem?_eq_some_iff.1 h).1
  have : (i + 1) * E.sz ≤ l.length * E.sz := Nat.mul_le_mul_right _ hl
  rw [Nat.succ_mul] at this
  simp only [pickA]
  rw [if_pos (by rw [E.cs_len]; exact this), E.cs_at h, ← E.len a, List.take_left]
/-- A part of an element, loaded. -/
theorem Enc.pick_part (E : Enc α) {l : List α} {i : Nat} {a : α} (h : l[i]? = some a) {sh : Option Nat} {o : Nat} (ho : o + sh.getD 1 ≤ E.sz) : pickA sh (E.cs l) (i * E.sz + o) = pickA sh (E.c a) o := by
  have hl := (List.getElem?_eq_some_iff.1 h).1
  have hm : (i + 1) * E.sz ≤ l.length * E.sz := Nat.mul_le_mul_right _ hl
  rw [Nat.succ_mul] at hm
  have hd : (E.cs l).drop (i * E.sz + o) = (E.c a).drop o ++ E.cs (l.drop (i + 1)) := by
    rw [← List.drop_drop, E.cs_at h, List.drop_append_of_le_length (by rw [E.len]; omega)]
  cases sh with
  | none =>
    simp only [Option.getD_none] at ho
    have e : (E.cs l)[i * E.sz + o]? = (E.c a)[o]? := by
      rw [← List.head?_drop, hd, ← List.head?_drop, List.head?_append]
      cases hq : ((E.c a).drop o).head? with
      | none =>
        have := List.head?_eq_none_iff.1 hq
        have := congrArg List.length this
        simp only [List.length_drop, E.len, List.length_nil] at this
        omega
      | some x => rfl
    simp only [pickA, e]
  | some n =>
    simp only [Option.getD_some] at ho
    simp only [pickA]
    rw [if_pos (by rw [E.cs_len]; omega), if_pos (by rw [E.len]; exact ho), hd, List.take_append_of_le_length (by rw [List.length_drop, E.len]; omega)]
/-- An element, written. -/
theorem Enc.over_at (E : Enc α) {l : List α} {i : Nat} {a b : α} (h : l[i]? = some a) {o : Nat} {vs : List AV} (ho : o + vs.length ≤ E.sz) (hb : over (E.c a) o vs = E.c b) : over (E.cs l) (i * E.sz + o) vs = E.cs (l.set i b) := by
  have hl := (List.getElem?_eq_some_iff.1 h).1
  have hm : (i + 1) * E.sz ≤ l.length * E.sz := Nat.mul_le_mul_right _ hl
  rw [Nat.succ_mul] at hm
  have e1 : E.cs l = E.cs (l.take i) ++ (E.c a ++ E.cs (l.drop (i + 1))) := by
    rw [← E.cs_at h, ← E.cs_take, List.take_append_drop]
  have e2 : E.cs (l.set i b) = E.cs (l.take i) ++ (E.c b ++ E.cs (l.drop (i + 1))) := by
    rw [List.set_eq_take_append_cons_drop, if_pos hl, E.cs_app]
    rfl
  have ht : (E.cs (l.take i)).length = i * E.sz := by rw [E.cs_len, List.length_take, Nat.min_eq_left (by omega)]
  rw [e2, ← hb, e1]
  simp only [over]
  have hca := E.len a
  have k1 : (E.cs (l.take i) ++ (E.c a ++ E.cs (l.drop (i + 1)))).take (i * E.sz + o) = E.cs (l.take i) ++ (E.c a).take o := by
    rw [List.take_append, ht, List.take_of_length_le (by omega), Nat.add_sub_cancel_left, List.take_append_of_le_length (by omega)]
  have k2 : (E.cs (l.take i) ++ (E.c a ++ E.cs (l.drop (i + 1)))).drop (i * E.sz + o + vs.length) = (E.c a).drop (o + vs.length) ++ E.cs (l.drop (i + 1)) := by
    rw [List.drop_append, ht, List.drop_eq_nil_of_le (by omega), show i * E.sz + o + vs.length - i * E.sz = o + vs.length by omega, List.drop_append_of_le_length (by omega), List.nil_append]
  rw [k1, k2]
  simp only [List.append_assoc]
theorem Enc.over_el (E : Enc α) {l : List α} {i : Nat} {a b : α} (h : l[i]? = some a) : over (E.cs l) (i * E.sz) (E.c b) = E.cs (l.set i b) := by
  have := E.over_at (b := b) h (o := 0) (vs := E.c b) (by rw [E.len]; omega) (by
    simp only [over, List.take_zero, List.nil_append, Nat.zero_add]
    rw [List.drop_eq_nil_of_le (by rw [E.len, E.len]; omega), List.append_nil])
  simpa using this

/-- A frozen slice of elements (it may be nil, if it has none). -/
def Enc.S (E : Enc α) (l : List α) : AV := .fsl (E.cs l) l.length
/-- A slice of our own, or one that has no element and no room. -/
def osl (id len sz : Nat) : AV := if len = 0 then .esl else .sl id 0 len sz len false
theorem Enc.S_len (E : Enc α) (hp : HP) (l : List α) : lenA hp (E.S l) = some (.int .i64 l.length) := rfl
theorem Enc.S_fits (E : Enc α) (l : List α) : lenFits .slice (E.S l) = true := rfl
theorem Enc.S_nid (E : Enc α) (l : List α) : nid (E.S l) = true := by simp only [Enc.S, nid, E.cs_nid]
theorem Enc.S_frz (E : Enc α) (hp : HP) (l : List α) : frz hp (E.S l) = some (E.S l) := by simp only [Enc.S, frz, E.cs_nid, if_true]
theorem Enc.S_src (E : Enc α) (hp : HP) (l : List α) : srcA hp E.sz (E.S l) = some (E.cs l, l.length) := by simp only [Enc.S, srcA, E.cs_len, if_true]
theorem Enc.S_iaddr (E : Enc α) {l : List α} {i : Nat} {k : IntKind} (h : i < l.length) : iaddrA E.sz (E.S l) (.int k (i : Int)) = some (.fptr (E.cs l) (i * E.sz)) :=
  iaddr_fsl (E.cs_ne (by intro h0; subst h0; simp at h)) h

theorem osl_len (hp : HP) (id len sz : Nat) : lenA hp (osl id len sz) = some (.int .i64 len) := by
  unfold osl
  split
  · rename_i h; subst h; rfl
  · rfl
theorem osl_fits (id len sz : Nat) : lenFits .slice (osl id len sz) = true := by
  unfold osl
  split <;> rfl
theorem osl_one (id len sz : Nat) : oneA (osl id len sz) = true := by
  unfold osl
  split <;> rfl
theorem osl_cells (id len sz : Nat) : cellsA (osl id len sz) = [osl id len sz] := by
  unfold osl
  split <;> rfl
/-- The elements, out of the cells. -/
def Enc.decL (E : Enc α) : Nat → List AV → Option (List α)
  | 0, [] => some []
  | 0, _ :: _ => none
  | n + 1, cs => match E.dec (cs.take E.sz), E.decL n (cs.drop E.sz) with
    | some a, some l => some (a :: l)
    | _, _ => none
theorem Enc.decL_cs (E : Enc α) : ∀ l : List α, E.decL l.length (E.cs l) = some l
  | [] => rfl
  | a :: l => by
    simp only [List.length_cons, Enc.decL, Enc.cs]
    rw [← E.len a, List.take_left, List.drop_left, E.dec_c, E.decL_cs l]
theorem Enc.decL_some (E : Enc α) : ∀ {n : Nat} {cs : List AV} {l : List α}, E.decL n cs = some l → cs = E.cs l ∧ n = l.length
  | 0, [], l, h => by
    simp only [Enc.decL, Option.some.injEq] at h
    subst h
    exact ⟨rfl, rfl⟩
  | 0, _ :: _, l, h => by simp [Enc.decL] at h
  | n + 1, cs, l, h => by
    simp only [Enc.decL] at h
    split at h
    · rename_i a l' h1 h2
      simp only [Option.some.injEq] at h
      subst h
      obtain ⟨h3, h4⟩ := E.decL_some h2
      have h5 := E.dec_some _ _ h1
      refine ⟨?_, by simp [h4]⟩
      simp only [Enc.cs]
      rw [← h5, ← h3, List.take_append_drop]
    · cases h
/-- A frozen slice's elements. -/
def Enc.un (E : Enc α) : AV → Option (List α)
  | .fsl cs len => E.decL len cs
  | _ => none
theorem Enc.un_S (E : Enc α) (l : List α) : E.un (E.S l) = some l := E.decL_cs l
theorem Enc.un_some (E : Enc α) {v : AV} {l : List α} (h : E.un v = some l) : v = E.S l := by
  cases v <;> simp only [Enc.un, reduceCtorEq] at h
  obtain ⟨h1, h2⟩ := E.decL_some h
  rw [h1, h2]
  rfl

end Go.Gi
