/- Slices of our own, whole: what the operations do with them. -/
import Derived.Test.YtakdhioafodhcaaGreatDoorGiAU
set_option linter.unusedVariables false
set_option linter.unusedSimpArgs false
namespace Go.Gi
open Go

variable {α : Type}

theorem set_get {hp : HP} {id : Nat} {x y : Option Blk} (h : hp[id]? = some y) : (hp.set id x)[id]? = some x := by
  have := (List.getElem?_eq_some_iff.1 h).1
  simp [this]
theorem set_get_ne {hp : HP} {id j : Nat} {x : Option Blk} (h : id ≠ j) : (hp.set id x)[j]? = hp[j]? := List.getElem?_set_ne h
theorem app_get {hp new : HP} {id : Nat} {y : Option Blk} (h : hp[id]? = some y) : (hp ++ new)[id]? = some y := by
  have := (List.getElem?_eq_some_iff.1 h).1
  rw [List.getElem?_append_left this, h]
theorem get_lt {hp : HP} {id : Nat} {y : Option Blk} (h : hp[id]? = some y) : id < hp.length := (List.getElem?_eq_some_iff.1 h).1

section
variable (E : Enc α) {hp : HP} {id : Nat} {e : TypeId} {l : List α} {lo : Nat} {ex : Bool}
theorem Enc.sl_frz (h : hp[id]? = some (some (.row e (E.cs l)))) : frz hp (.sl id 0 l.length E.sz lo ex) = some (E.S l) := by
  simp only [frz, h]
  rw [if_pos (by rw [E.cs_len, E.cs_nid]; simp), List.drop_zero, List.take_of_length_le (by rw [E.cs_len]; exact Nat.le_refl _)]
  rfl
theorem Enc.sl_fresh (h : hp[id]? = some (some (.row e (E.cs l)))) (hi : E.ip = true := by rfl) : fresh hp (.sl id 0 l.length E.sz lo ex) = some (E.S l) := by
  simp only [fresh, h]
  rw [if_pos (by rw [E.cs_len, E.cs_plain hi]; simp), List.drop_zero, List.take_of_length_le (by rw [E.cs_len]; exact Nat.le_refl _)]
  rfl
theorem Enc.sl_src (h : hp[id]? = some (some (.row e (E.cs l)))) : srcA hp E.sz (.sl id 0 l.length E.sz lo ex) = some (E.cs l, l.length) := by
  simp only [srcA, h]
  rw [if_pos ⟨trivial, by rw [E.cs_len]; omega⟩, List.drop_zero, List.take_of_length_le (by rw [E.cs_len]; exact Nat.le_refl _)]
theorem Enc.pick1 (h1 : E.sz = 1) {i : Nat} {a : α} {v : AV} (ha : l[i]? = some a) (hv : E.c a = [v]) (ho : oneA v = true) : pickA none (E.cs l) i = some v := by
  have := E.pick_part ha (sh := none) (o := 0) (by rw [h1]; exact Nat.le_refl _)
  rw [h1, Nat.mul_one, Nat.add_zero, hv] at this
  rw [this]
  simp [pickA, ho]
theorem Enc.sl_load1 (h1 : E.sz = 1) (h : hp[id]? = some (some (.row e (E.cs l)))) {i : Nat} {a : α} {v : AV} (ha : l[i]? = some a) (hv : E.c a = [v]) (ho : oneA v = true) : loadA hp none (.ptr id i) = some v := by
  simp only [loadA, rowA, h, E.pick1 h1 ha hv ho]
theorem Enc.sl_store (h : hp[id]? = some (some (.row e (E.cs l)))) {i : Nat} (hi : i < l.length) {b : α} {v : AV} (hv : cellsA v = E.c b) (ht : ∀ vs, v ≠ .tup vs) : storeA hp E.sz (.ptr id (i * E.sz)) v = some (hp.set id (some (.row e (E.cs (l.set i b))))) := by
  have hm : (i + 1) * E.sz ≤ l.length * E.sz := Nat.mul_le_mul_right _ hi
  rw [Nat.succ_mul] at hm
  have ho : over (E.cs l) (i * E.sz) (E.c b) = E.cs (l.set i b) := E.over_el (List.getElem?_eq_getElem hi)
  simp only [storeA, h]
  cases v <;> first | (exact absurd rfl (ht _)) | (simp only [hv, E.len, E.cs_len]; rw [if_pos ⟨trivial, hm⟩, ho])
theorem Enc.sl_store1 (h1 : E.sz = 1) (h : hp[id]? = some (some (.row e (E.cs l)))) {i : Nat} (hi : i < l.length) {b : α} {v : AV} (hv : cellsA v = E.c b) (ht : ∀ vs, v ≠ .tup vs) : storeA hp 1 (.ptr id i) v = some (hp.set id (some (.row e (E.cs (l.set i b))))) := by
  have := E.sl_store h hi hv ht
  rwa [h1, Nat.mul_one] at this
/-- Appending to a slice of our own that is full. -/
theorem Enc.sl_app {bytes : Nat} {m : List α} {x : AV} (h : hp[id]? = some (some (.row e (E.cs l)))) (hx : srcA hp E.sz x = some (E.cs m, m.length)) (hm : 0 < m.length) (hb : (l.length + m.length) * bytes ≤ 140737488355328) (hn : l.length + m.length ≤ 9223372036854775807) :
    appA e E.sz bytes hp (.sl id 0 l.length E.sz l.length false) x = some (.sl hp.length 0 (l ++ m).length E.sz (l ++ m).length false, hp.set id none ++ [some (.row e (E.cs (l ++ m)))]) := by
  simp only [appA, hx, h]
  rw [if_neg (by omega), if_pos ⟨trivial, by rw [E.cs_len]; omega⟩, if_neg (by omega), if_pos ⟨hb, hn⟩]
  simp only [Bool.false_eq_true, if_false, List.drop_zero]
  rw [if_pos ⟨by rw [E.cs_len]; omega, trivial⟩, E.cs_app, List.length_append]
theorem Enc.nils_app {bytes : Nat} {m : List α} {x : AV} (hx : srcA hp E.sz x = some (E.cs m, m.length)) (hm : 0 < m.length) (hb : m.length * bytes ≤ 140737488355328) (hn : m.length ≤ 9223372036854775807) :
    appA e E.sz bytes hp .nils x = some (.sl hp.length 0 m.length E.sz m.length false, hp ++ [some (.row e (E.cs m))]) := by
  simp only [appA, hx]
  rw [if_neg (by omega), if_pos ⟨hb, hn⟩]
end

/-- A slice that is built by appending: nil at first. -/
def bld (id len sz : Nat) : AV := if len = 0 then .nils else .sl id 0 len sz len false
theorem bld_pos {id len sz : Nat} (h : 0 < len) : bld id len sz = .sl id 0 len sz len false := by
  unfold bld
  rw [if_neg (by omega)]
/-- Where it lies: if it has elements. -/
def BldAt (E : Enc α) (hp : HP) (id : Nat) (e : TypeId) (l : List α) : Prop := l = [] ∨ hp[id]? = some (some (.row e (E.cs l)))
theorem BldAt.nil (E : Enc α) (hp : HP) (id : Nat) (e : TypeId) : BldAt E hp id e [] := .inl rfl
theorem BldAt.app {E : Enc α} {hp : HP} {id : Nat} {e : TypeId} {l : List α} (h : BldAt E hp id e l) (new : HP) : BldAt E (hp ++ new) id e l := h.elim .inl fun h => .inr (app_get h)
theorem bld_one (id len sz : Nat) : oneA (bld id len sz) = true := by
  unfold bld
  split <;> rfl
theorem bld_cells (id len sz : Nat) : cellsA (bld id len sz) = [bld id len sz] := by
  unfold bld
  split <;> rfl
theorem bld_notTup (id len sz : Nat) (vs : List AV) : bld id len sz ≠ .tup vs := by
  unfold bld
  split <;> simp
theorem bld_len (hp : HP) (id len sz : Nat) : lenA hp (bld id len sz) = some (.int .i64 len) := by
  unfold bld
  split
  · rename_i h; subst h; rfl
  · rfl
theorem bld_fits (id len sz : Nat) : lenFits .slice (bld id len sz) = true := by
  unfold bld
  split <;> rfl
theorem BldAt.frz {E : Enc α} {hp : HP} {id : Nat} {e : TypeId} {l : List α} (h : BldAt E hp id e l) : Gi.frz hp (bld id l.length E.sz) = some (E.S l) := by
  rcases h with rfl | h
  · rfl
  · by_cases h0 : l.length = 0
    · have := List.eq_nil_of_length_eq_zero h0
      subst this
      rfl
    · rw [bld_pos (by omega)]
      exact E.sl_frz h
theorem BldAt.fresh {E : Enc α} {hp : HP} {id : Nat} {e : TypeId} {l : List α} (h : BldAt E hp id e l) (hi : E.ip = true := by rfl) : Gi.fresh hp (bld id l.length E.sz) = some (E.S l) := by
  rcases h with rfl | h
  · rfl
  · by_cases h0 : l.length = 0
    · have := List.eq_nil_of_length_eq_zero h0
      subst this
      rfl
    · rw [bld_pos (by omega)]
      exact E.sl_fresh h hi
theorem BldAt.src {E : Enc α} {hp : HP} {id : Nat} {e : TypeId} {l : List α} (h : BldAt E hp id e l) : srcA hp E.sz (bld id l.length E.sz) = some (E.cs l, l.length) := by
  rcases h with rfl | h
  · rfl
  · by_cases h0 : l.length = 0
    · have := List.eq_nil_of_length_eq_zero h0
      subst this
      rfl
    · rw [bld_pos (by omega)]
      exact E.sl_src h
/-- Appending to it: some elements more, at least one. -/
def bldH (hp : HP) (id len : Nat) (b : Blk) : HP := (if len = 0 then hp else hp.set id none) ++ [some b]
theorem BldAt.more {E : Enc α} {hp : HP} {id : Nat} {e : TypeId} {l m : List α} (h : BldAt E hp id e l) {bytes : Nat} {x : AV} (hx : srcA hp E.sz x = some (E.cs m, m.length)) (hm : 0 < m.length) (hb : (l.length + m.length) * bytes ≤ 140737488355328) (hn : l.length + m.length ≤ 9223372036854775807) :
    appA e E.sz bytes hp (bld id l.length E.sz) x = some (bld hp.length (l ++ m).length E.sz, bldH hp id l.length (.row e (E.cs (l ++ m)))) := by
  have hpos : 0 < (l ++ m).length := by simp; omega
  rw [bld_pos hpos]
  by_cases h0 : l.length = 0
  · have := List.eq_nil_of_length_eq_zero h0
    subst this
    simp only [bld, List.length_nil, if_true, bldH]
    rw [E.nils_app hx hm (by simpa using hb) (by simpa using hn)]
    simp
  · rw [bld_pos (by omega)]
    rcases h with rfl | h
    · simp at h0
    · rw [E.sl_app h hx hm hb hn, bldH, if_neg h0]
theorem BldAt.moreAt (E : Enc α) (hp : HP) (id len : Nat) (e : TypeId) (l : List α) : BldAt E (bldH hp id len (.row e (E.cs l))) hp.length e l := by
  refine .inr ?_
  unfold bldH
  split
  · simp
  · rw [List.getElem?_append_right (by simp)]
    simp
/-- Other blocks are as they were. -/
theorem bldH_other {hp : HP} {id len : Nat} {b : Blk} {j : Nat} {y : Option Blk} (h : hp[j]? = some y) (hj : len = 0 ∨ j ≠ id) : (bldH hp id len b)[j]? = some y := by
  unfold bldH
  split
  · exact app_get h
  · refine app_get ?_
    rw [List.getElem?_set_ne (by omega)]
    exact h
theorem iaddr_sl {sz id off len lo i : Nat} {ex : Bool} {k : IntKind} (h : i < len) : iaddrA sz (.sl id off len sz lo ex) (.int k (i : Int)) = some (.ptr id (off + i * sz)) := by
  simp only [iaddrA]
  rw [if_pos ⟨trivial, by omega, by omega⟩, Int.toNat_natCast]
theorem iaddr_sl1 {id len lo i : Nat} {ex : Bool} {k : IntKind} (h : i < len) : iaddrA 1 (.sl id 0 len 1 lo ex) (.int k (i : Int)) = some (.ptr id i) := by
  rw [iaddr_sl h, Nat.zero_add, Nat.mul_one]

/-- A library function's call, by what the model knows of it. -/
theorem vcE.ext {P : Program} {hint : Nat → Nat} {T : Tab} {n : Nat} {d : Option Nat} {xs : List Opd} {g : Option (Nat × Bool)} {tm : Env} {hp : HP} {Q : Exit → Env → HP → Prop} {f : FuncId} {caps ys : List AV} {K : AV → HP → Prop} (hw : wantedE tm g = true) (he : evsE tm xs = .func f caps :: ys) (hc : AExt P f (ys ++ caps) hp K) (hk : ∀ r hp', K r hp' → Q .normal (putE tm d r) hp') : vcE P hint T n (.reg [⟨d, .call none, xs, g⟩]) tm hp Q := by
  intro hm hT hs l Q' hl hq
  simp only [okS, List.all_cons, List.all_nil, Bool.and_true, IOp.inR, Bool.and_eq_true] at hs
  obtain ⟨⟨h1, h2⟩, h3⟩ := hs
  show vop P _ _ _
  unfold vop
  rw [if_pos (by rw [hl.wanted h3]; exact hw)]
  simp only
  rw [hl.evs h1, he]
  exact Or.inr (hc.mono fun r hp' hr => hq _ _ _ _ hl.put (hk r hp' hr))

end Go.Gi
