/- The steps of the abstract memory: a new block, a block that is written, one that is named anew, one that nobody writes any more. -/
import Derived.Test.YtakdhioafodhcaaGreatDoorGiA
set_option linter.unusedVariables false
set_option linter.unusedSimpArgs false
namespace Go.Gi
open Go

/-- The world with another block at a place. -/
def setB (w : World) (b : Nat) (o : Obj) : World := { w with heap := w.heap.setIfInBounds b o }

theorem setB_ne (w : World) {b b' : Nat} (o : Obj) (h : b' ≠ b) : (setB w b o).heap[b']? = w.heap[b']? := by
  simp only [setB, Array.getElem?_setIfInBounds]
  rw [if_neg (fun e => h e.symm)]
theorem setB_eq (w : World) {b : Nat} (o : Obj) (h : b < w.heap.size) : (setB w b o).heap[b]? = some o := by
  simp only [setB, Array.getElem?_setIfInBounds]
  simp [h]
theorem setB_size (w : World) (b : Nat) (o : Obj) : (setB w b o).heap.size = w.heap.size := by simp [setB]

def Cx.setB (Γ : Cx) (b : Nat) (o : Obj) : Cx := { Γ with w := Gi.setB Γ.w b o }
/-- One more block is known. -/
def Cx.know (Γ : Cx) (p : Nat × Nat) : Cx := { Γ with n := Γ.n + 1, β := fun i => if i = Γ.n then p else Γ.β i }
/-- A block of the world is new. -/
def Cx.alloc (Γ : Cx) (o : Obj) : Cx := { Γ with w := Γ.w.alloc o }
/-- A block is written no more. -/
def Cx.shut (Γ : Cx) (b : Nat) : Cx := { Γ with Fz := fun c => Γ.Fz c ∨ c = b }

theorem Le.setB {Γ : Cx} {b : Nat} {o : Obj} (hb : ¬ Γ.Fz b) (hs : ∀ s, Γ.w.shape? b = some s → (Gi.setB Γ.w b o).shape? b = some s) : Le Γ (Γ.setB b o) :=
  ⟨Nat.le_refl _, fun _ _ => rfl, fun _ h => h, fun c hc => setB_ne _ _ (fun e => hb (e ▸ hc)), fun c s h => by
    by_cases e : c = b
    · subst e; exact hs s h
    · simp only [World.shape?, Cx.setB] at h ⊢
      rw [setB_ne _ _ e]; exact h, rfl⟩
theorem Le.know (Γ : Cx) (p : Nat × Nat) : Le Γ (Γ.know p) :=
  ⟨by simp [Cx.know], fun i hi => by simp [Cx.know, Nat.ne_of_lt hi], fun _ h => h, fun _ _ => rfl, fun _ _ h => h, rfl⟩
theorem Le.shut (Γ : Cx) (b : Nat) : Le Γ (Γ.shut b) := ⟨Nat.le_refl _, fun _ _ => rfl, fun _ h => .inl h, fun _ _ => rfl, fun _ _ h => h, rfl⟩
theorem alloc_old (w : World) (o : Obj) {b : Nat} (h : b < w.heap.size) : (w.alloc o).heap[b]? = w.heap[b]? := by
  show (w.heap.push o)[b]? = _
  rw [Array.getElem?_push, if_neg (by omega)]
theorem alloc_new (w : World) (o : Obj) : (w.alloc o).heap[w.heap.size]? = some o := by
  show (w.heap.push o)[w.heap.size]? = _
  simp
theorem alloc_size (w : World) (o : Obj) : (w.alloc o).heap.size = w.heap.size + 1 := by
  show (w.heap.push o).size = _
  simp
theorem shape_lt {w : World} {b : Nat} {s : TypeId × Nat} (h : w.shape? b = some s) : b < w.heap.size := by
  rcases Nat.lt_or_ge b w.heap.size with h' | h'
  · exact h'
  · simp [World.shape?, Array.getElem?_eq_none h'] at h
theorem Le.alloc {Γ : Cx} (hf : ∀ b, Γ.Fz b → b < Γ.w.heap.size) (o : Obj) : Le Γ (Γ.alloc o) :=
  ⟨Nat.le_refl _, fun _ _ => rfl, fun _ h => h, fun c hc => alloc_old _ _ (hf c hc), fun c s h => by
    have := shape_lt h
    simp only [World.shape?, Cx.alloc] at h ⊢
    rw [alloc_old _ _ this]; exact h, rfl⟩

theorem HP.get_snoc {hp : HP} {x : Option Blk} {i : Nat} {y : Blk} (h : (hp ++ [x])[i]? = some (some y)) : (i = hp.length ∧ x = some y) ∨ hp[i]? = some (some y) := by
  rw [List.getElem?_append] at h
  split at h
  · exact .inr h
  · rename_i hi
    have : i - hp.length = 0 := by
      rcases Nat.eq_zero_or_pos (i - hp.length) with e | e
      · exact e
      · rw [List.getElem?_eq_none (by simp; omega)] at h; cases h
    rw [this] at h
    simp at h
    exact .inl ⟨by omega, h⟩

theorem HP.lt {hp : HP} {i : Nat} {x : Option Blk} (h : hp[i]? = some x) : i < hp.length := (List.getElem?_eq_some_iff.1 h).1

/-- A new block of the world, under a new name. -/
theorem HSim.new {Γ : Cx} {hp : HP} (h : HSim Γ hp) (o : Obj) (x : Blk) (hx : BRel ((Γ.alloc o).know (Γ.w.heap.size, 0)) (Γ.w.heap.size, 0) x) :
    HSim ((Γ.alloc o).know (Γ.w.heap.size, 0)) (hp ++ [some x]) ∧ Ev Γ hp ((Γ.alloc o).know (Γ.w.heap.size, 0)) (hp ++ [some x]) := by
  have le : Le Γ ((Γ.alloc o).know (Γ.w.heap.size, 0)) := (Le.alloc h.fz o).trans (Le.know _ _)
  have old : ∀ (i : Nat) (y : Blk), hp[i]? = some (some y) → ((Γ.alloc o).know (Γ.w.heap.size, 0)).β i = Γ.β i := fun i y hy => le.β i (h.len ▸ HP.lt hy)
  have new : ((Γ.alloc o).know (Γ.w.heap.size, 0)).β hp.length = (Γ.w.heap.size, 0) := by simp [Cx.know, Cx.alloc, h.len]
  refine ⟨⟨by simp [h.len, Cx.know, Cx.alloc], ?_, ?_, ?_, h.gl.le le⟩, ⟨le, rfl, rfl, rfl, ?_, ?_, ?_, ?_, rfl⟩⟩
  · intro i y hy
    rcases HP.get_snoc hy with ⟨rfl, e⟩ | hy
    · cases e
      rw [new]
      refine ⟨hx, fun hf => ?_, ?_⟩
      · have := h.fz _ hf; simp at this
      · simp [Cx.know, Cx.alloc, alloc_size]
    · rw [old i y hy]
      obtain ⟨h1, h2, h3⟩ := h.blk i y hy
      exact ⟨BRel.le le (alloc_old _ _ h3) h1, h2, by simp [Cx.know, Cx.alloc, alloc_size]; omega⟩
  · intro i j y z hy hz e
    rcases HP.get_snoc hy with ⟨rfl, ey⟩ | hy <;> rcases HP.get_snoc hz with ⟨rfl, ez⟩ | hz
    · rfl
    · rw [new, old j z hz] at e; have := (h.blk j z hz).2.2; simp at e; omega
    · rw [new, old i y hy] at e; have := (h.blk i y hy).2.2; simp at e; omega
    · rw [old i y hy, old j z hz] at e; exact h.inj i j y z hy hz e
  · intro b hb; have := h.fz b hb; simp [Cx.know, Cx.alloc, alloc_size]; omega
  · simp [Cx.know, Cx.alloc, alloc_size]
  · intro b hb _; exact alloc_old _ _ hb
  · rintro b ⟨i, y, hy, rfl⟩
    rcases HP.get_snoc hy with ⟨rfl, e⟩ | hy
    · rw [new]; exact .inl (Nat.le_refl _)
    · rw [old i y hy]; exact .inr ⟨i, y, hy, rfl⟩
  · intro b hb; exact .inl hb

/-- A new block of the world that is never written. -/
theorem HSim.newFz {Γ : Cx} {hp : HP} (h : HSim Γ hp) (o : Obj) : HSim ((Γ.alloc o).shut Γ.w.heap.size) hp ∧ Ev Γ hp ((Γ.alloc o).shut Γ.w.heap.size) hp := by
  have le : Le Γ ((Γ.alloc o).shut Γ.w.heap.size) := (Le.alloc h.fz o).trans (Le.shut _ _)
  refine ⟨⟨h.len, ?_, h.inj, ?_, h.gl.le le⟩, ⟨le, rfl, rfl, rfl, ?_, ?_, ?_, ?_, rfl⟩⟩
  · intro i y hy
    obtain ⟨h1, h2, h3⟩ := h.blk i y hy
    refine ⟨BRel.le le (alloc_old _ _ h3) h1, fun hf => ?_, by simp [Cx.shut, Cx.alloc, alloc_size]; omega⟩
    rcases hf with hf | hf
    · exact h2 hf
    · have h3' : (Γ.β i).1 < Γ.w.heap.size := h3
      have hf' : (Γ.β i).1 = Γ.w.heap.size := hf
      omega
  · intro b hb
    simp only [Cx.shut, Cx.alloc, alloc_size]
    rcases hb with hb | hb
    · have := h.fz b hb; omega
    · omega
  · simp [Cx.shut, Cx.alloc, alloc_size]
  · intro b hb _; exact alloc_old _ _ hb
  · intro b hb; exact .inr hb
  · intro b hb
    rcases hb with hb | hb
    · exact .inl hb
    · exact .inr (.inl (by omega))

/-- A block of ours is written. -/
theorem HSim.write {Γ : Cx} {hp : HP} (h : HSim Γ hp) {i : Nat} {x : Blk} (hi : hp[i]? = some (some x)) (o : Obj) (x' : Blk)
    (hs : ∀ s, Γ.w.shape? (Γ.β i).1 = some s → (setB Γ.w (Γ.β i).1 o).shape? (Γ.β i).1 = some s)
    (hx : BRel (Γ.setB (Γ.β i).1 o) (Γ.β i) x') : HSim (Γ.setB (Γ.β i).1 o) (hp.set i (some x')) ∧ Ev Γ hp (Γ.setB (Γ.β i).1 o) (hp.set i (some x')) := by
  obtain ⟨h1, h2, h3⟩ := h.blk i x hi
  have le : Le Γ (Γ.setB (Γ.β i).1 o) := Le.setB h2 hs
  have get : ∀ (j : Nat) (y : Blk), (hp.set i (some x'))[j]? = some (some y) → (j = i ∧ y = x') ∨ (j ≠ i ∧ hp[j]? = some (some y)) := by
    intro j y hy
    rw [List.getElem?_set] at hy
    split at hy
    · rename_i e; subst e; simp [HP.lt hi] at hy; exact .inl ⟨rfl, hy.symm⟩
    · rename_i e; exact .inr ⟨fun e' => e e'.symm, hy⟩
  have was : ∀ (j : Nat) (y : Blk), (hp.set i (some x'))[j]? = some (some y) → ∃ z, hp[j]? = some (some z) := by
    intro j y hy
    rcases get j y hy with ⟨rfl, _⟩ | ⟨_, hy⟩
    · exact ⟨x, hi⟩
    · exact ⟨y, hy⟩
  refine ⟨⟨by simp [h.len, Cx.setB], ?_, ?_, ?_, h.gl.le le⟩, ⟨le, rfl, rfl, rfl, ?_, ?_, ?_, ?_, rfl⟩⟩
  · intro j y hy
    rcases get j y hy with ⟨rfl, rfl⟩ | ⟨hne, hy⟩
    · exact ⟨hx, h2, by simp only [Cx.setB, setB_size]; exact h3⟩
    · obtain ⟨k1, k2, k3⟩ := h.blk j y hy
      refine ⟨BRel.le le (setB_ne _ _ fun e => hne (h.inj j i y x hy hi e)) k1, k2, by simp only [Cx.setB, setB_size]; exact k3⟩
  · intro j k y z hy hz e
    obtain ⟨y', hy'⟩ := was j y hy
    obtain ⟨z', hz'⟩ := was k z hz
    exact h.inj j k y' z' hy' hz' e
  · intro b hb; simp only [Cx.setB, setB_size]; exact h.fz b hb
  · simp [Cx.setB, setB_size]
  · intro b hb hn; exact setB_ne _ _ fun e => hn ⟨i, x, hi, e.symm⟩
  · rintro b ⟨j, y, hy, rfl⟩
    obtain ⟨y', hy'⟩ := was j y hy
    exact .inr ⟨j, y', hy', rfl⟩
  · intro b hb; exact .inl hb

/-- A block of ours gets a new name; the old one is no more. -/
theorem HSim.rename {Γ : Cx} {hp : HP} (h : HSim Γ hp) {i : Nat} {x : Blk} (hi : hp[i]? = some (some x)) (p : Nat × Nat) (hp1 : p.1 = (Γ.β i).1) (x' : Blk)
    (hx : BRel (Γ.know p) p x') : HSim (Γ.know p) (hp.set i none ++ [some x']) ∧ Ev Γ hp (Γ.know p) (hp.set i none ++ [some x']) := by
  have le : Le Γ (Γ.know p) := Le.know _ _
  have hl : (hp.set i none).length = hp.length := by simp
  have get : ∀ (j : Nat) (y : Blk), (hp.set i none ++ [some x'])[j]? = some (some y) → (j = hp.length ∧ y = x') ∨ (j ≠ i ∧ hp[j]? = some (some y)) := by
    intro j y hy
    rcases HP.get_snoc hy with ⟨rfl, e⟩ | hy
    · cases e; exact .inl ⟨hl, rfl⟩
    · rw [List.getElem?_set] at hy
      split at hy
      · rw [if_pos (HP.lt hi)] at hy; cases hy
      · rename_i e; exact .inr ⟨fun e' => e e'.symm, hy⟩
  have old : ∀ (j : Nat) (y : Blk), hp[j]? = some (some y) → (Γ.know p).β j = Γ.β j := fun j y hy => le.β j (h.len ▸ HP.lt hy)
  have new : (Γ.know p).β hp.length = p := by simp [Cx.know, h.len]
  obtain ⟨h1, h2, h3⟩ := h.blk i x hi
  refine ⟨⟨by simp [h.len, Cx.know], ?_, ?_, h.fz, h.gl.le le⟩, ⟨le, rfl, rfl, rfl, Nat.le_refl _, fun _ _ _ => rfl, ?_, fun b hb => .inl hb, rfl⟩⟩
  · intro j y hy
    rcases get j y hy with ⟨rfl, rfl⟩ | ⟨hne, hy⟩
    · rw [new]; exact ⟨hx, by rw [hp1]; exact h2, by rw [hp1]; exact h3⟩
    · rw [old j y hy]
      obtain ⟨k1, k2, k3⟩ := h.blk j y hy
      exact ⟨BRel.le le rfl k1, k2, k3⟩
  · intro j k y z hy hz e
    rcases get j y hy with ⟨ej, _⟩ | ⟨hne, hy'⟩ <;> rcases get k z hz with ⟨ek, _⟩ | ⟨hne', hz'⟩
    · omega
    · rw [ej, new, old k z hz', hp1] at e; exact absurd (h.inj i k x z hi hz' e) (fun e => hne' e.symm)
    · rw [ek, new, old j y hy', hp1] at e; exact absurd (h.inj j i y x hy' hi e) hne
    · rw [old j y hy', old k z hz'] at e; exact h.inj j k y z hy' hz' e
  · rintro b ⟨j, y, hy, rfl⟩
    rcases get j y hy with ⟨rfl, rfl⟩ | ⟨hne, hy⟩
    · rw [new, hp1]; exact .inr ⟨i, x, hi, rfl⟩
    · rw [old j y hy]; exact .inr ⟨j, y, hy, rfl⟩

/-- Names may be forgotten. -/
theorem HSim.forget {Γ : Cx} {hp : HP} (h : HSim Γ hp) (hp' : HP) (hl : hp'.length = hp.length) (hg : ∀ (i : Nat) (x : Blk), hp'[i]? = some (some x) → hp[i]? = some (some x)) : HSim Γ hp' ∧ Ev Γ hp Γ hp' :=
  ⟨⟨hl.trans h.len, fun i x hx => h.blk i x (hg i x hx), fun i j x y hx hy e => h.inj i j x y (hg i x hx) (hg j y hy) e, h.fz, h.gl⟩,
    ⟨Le.refl _, rfl, rfl, rfl, Nat.le_refl _, fun _ _ _ => rfl, fun b ⟨i, x, hx, e⟩ => .inr ⟨i, x, hg i x hx, e⟩, fun _ h => .inl h, rfl⟩⟩

/-- A part of a list written over. -/
def over {α : Type} (l : List α) (o : Nat) (vs : List α) : List α := l.take o ++ vs ++ l.drop (o + vs.length)
theorem over_length {α : Type} (l : List α) (o : Nat) (vs : List α) (h : o + vs.length ≤ l.length) : (over l o vs).length = l.length := by
  simp [over]; omega
theorem over_nil {α : Type} (l : List α) (o : Nat) : over l o [] = l := by simp [over]
theorem over_get {α : Type} (l : List α) (o : Nat) (vs : List α) (h : o ≤ l.length) (i : Nat) : (over l o vs)[i]? = if o ≤ i ∧ i < o + vs.length then vs[i - o]? else l[i]? := by
  have hl : (List.take o l).length = o := by simp; omega
  simp only [over]
  rw [List.append_assoc, List.getElem?_append, hl]
  split
  · rename_i h1
    rw [if_neg (by omega), List.getElem?_take, if_pos h1]
  · rename_i h1
    rw [List.getElem?_append]
    split
    · rename_i h2; rw [if_pos (by omega)]
    · rename_i h2
      rw [if_neg (by omega), List.getElem?_drop]
      congr 1; omega
theorem over_cons {α : Type} (l : List α) (o : Nat) (v : α) (vs : List α) (h : o + (vs.length + 1) ≤ l.length) : over l o (v :: vs) = over (l.set o v) (o + 1) vs := by
  apply List.ext_getElem?
  intro i
  rw [over_get _ _ _ (by omega), over_get _ _ _ (by simp; omega), List.getElem?_set]
  simp only [List.length_cons]
  by_cases h1 : o = i
  · subst h1; simp; rw [if_neg (by omega), if_pos (by omega)]
  · by_cases h2 : o ≤ i ∧ i < o + (vs.length + 1)
    · rw [if_pos h2, if_pos (by omega)]
      obtain ⟨d, rfl⟩ : ∃ d, i = o + 1 + d := ⟨i - o - 1, by omega⟩
      rw [show o + 1 + d - o = d + 1 by omega, show o + 1 + d - (o + 1) = d by omega]
      simp
    · rw [if_neg h2, if_neg (by omega), if_neg h1]

theorem add_at (b o n : Nat) : (⟨b, o, none⟩ : Addr).add n = ⟨b, o + n, none⟩ := by
  unfold Addr.add; split <;> simp_all

/-- Cells are stored one by one. -/
theorem run_storeCells {P : Program} (b o : Nat) (e : TypeId) (fr : Nat × Nat) : ∀ (vs : List Value) (i : Nat) (w : World) (c : List Value), w.heap[b]? = some (.cells ⟨c⟩ e fr) → (∀ j, j < c.length → ¬ (fr.1 ≤ j ∧ j < fr.2)) →
    o + i + vs.length ≤ c.length → (∀ v ∈ vs, one v = true) →
    (storeCells ⟨b, o, none⟩ vs i).run P w = .ok () (setB w b (.cells ⟨over c (o + i) vs⟩ e fr))
  | [], i, w, c, hw, _, _, _ => by
    have hb : b < w.heap.size := (Array.getElem?_eq_some_iff.1 hw).1
    have : w.heap.setIfInBounds b (.cells ⟨c⟩ e fr) = w.heap := by
      apply Array.ext_getElem?
      intro j
      rw [Array.getElem?_setIfInBounds]
      split
      · rename_i e; subst e; rw [hw]
      · rfl
    simp only [storeCells, over_nil, setB, this]
    rfl
  | v :: vs, i, w, c, hw, hfr, hl, h1 => by
    have hb : b < w.heap.size := (Array.getElem?_eq_some_iff.1 hw).1
    have hlt : o + i < c.length := by simp at hl; omega
    have hv := h1 v (by simp)
    have hcell : w.cell? ⟨b, o + i, none⟩ = some c[o + i] := by simp [World.cell?, hw, hlt]
    have hfz : w.frozen? ⟨b, o + i, none⟩ = false := by
      simp only [World.frozen?, hw]
      have := hfr (o + i) hlt
      simp only [Bool.and_eq_false_iff, decide_eq_false_iff_not]
      omega
    have hset : (w.setCell ⟨b, o + i, none⟩ v) = setB w b (.cells ⟨c.set (o + i) v⟩ e fr) := by
      simp only [World.setCell, setB]
      congr 1
      apply Array.ext_getElem?
      intro j
      rw [Array.getElem?_modify, Array.getElem?_setIfInBounds]
      split
      · rename_i e'; subst e'; rw [hw]; simp
      · rfl
    have hstep : (storeCells ⟨b, o, none⟩ (v :: vs) i).run P w = (storeCells ⟨b, o, none⟩ vs (i + 1)).run P (setB w b (.cells ⟨c.set (o + i) v⟩ e fr)) := by
      rw [← hset]
      conv => lhs; unfold storeCells
      rw [add_at]
      cases v <;> simp [one] at hv <;> simp [store, bind, Sem.bind, Sem.run, hcell, hfz]
    rw [hstep, run_storeCells b o e fr vs (i + 1) (setB w b (.cells ⟨c.set (o + i) v⟩ e fr)) (c.set (o + i) v) (setB_eq _ _ hb) (by simpa using hfr) (by simp at hl ⊢; omega) (fun u hu => h1 u (by simp [hu]))]
    rw [over_cons c (o + i) v vs (by simp at hl; omega)]
    simp only [setB, Array.setIfInBounds_setIfInBounds, Nat.add_assoc]

end Go.Gi
