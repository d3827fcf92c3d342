/- The core of a small abstract machine over Go's data: values as trees, mutable memory as a short list of blocks, and what it means that such a state stands for a state of the model. -/
import Derived.Below
import Derived.Calls
import Derived.Tactics
import Derived.Scope
import Derived.Orders
import Derived.Deep.Quiet
import Derived.Laws.Cells
import Derived.Laws.Entries
set_option linter.unusedVariables false
set_option linter.unusedSimpArgs false
namespace Go.Gi
open Go

/-- Go's data as trees. 'esl': no elements and no room (nil is one); 'enn': no elements, and not nil; 'fsl' of length 0 may be nil, too. 'fsl' and 'fptr' stand for memory that nobody writes any more; 'sl' and 'ptr' name a block of the abstract memory; 'unk' is some number. -/
inductive AV where
  | int (k : IntKind) (n : Int)
  | bool (b : Bool)
  | str (s : List UInt8)
  | nilp
  | ptr (id off : Nat)
  | fptr (cells : List AV) (off : Nat)
  | nils
  | sl (id off len sz lo : Nat) (ex : Bool)
  | fsl (cells : List AV) (len : Nat)
  | esl
  | enn
  | nilm
  | map (id : Nat)
  | func (f : FuncId) (caps : List AV)
  | nilf
  | iface (t : TypeId) (v : AV)
  | nili
  | agg (cells : List AV)
  | tup (vs : List AV)
  | yld (id : Nat)
  | bound (f : FuncId) (first : List AV)
  | unk

instance : Inhabited AV := ⟨.tup []⟩

/-- A block of the abstract memory. -/
inductive Blk where
  | row (e : TypeId) (cells : List AV)
  | map (es : List (AV × AV)) (bs : List Nat) (clock : Nat)
  | iter (is : List AV) (since : Nat) (seen : List Nat) (last : Nat)
  | loop (tms : List AV) (key : Nat) (st : LoopState) (pend : Option (Option Nat))

/-- A loop over a function, as the program has it. -/
structure LC where
  params : Array Tmp
  assign : Code
  body : Code

abbrev HP := List (Option Blk)

/-- How abstract things lie in a world: the world, how many blocks are known, where each lies (its block, and where it begins there), and which blocks of the world nobody writes any more; the program's loops over functions, by number; how many blocks the world had when the function was entered. -/
structure Cx where
  w : World
  n : Nat
  β : Nat → Nat × Nat
  Fz : Nat → Prop
  lc : Nat → LC
  s0 : Nat

/-- A value that lies in one cell. -/
def one : Value → Bool
  | .agg _ | .tuple _ => false
  | _ => true

/-- A slice without elements and without room. -/
def NilS (v : Value) : Prop := v = .slice none 0 0 ∨ ∃ a : Addr, v = .slice (some a) 0 0

mutual
/-- The tree stands for the value. -/
def VRel (Γ : Cx) : AV → Value → Prop
  | .int k n, v => v = .int k n
  | .bool b, v => v = .bool b
  | .str s, v => v = .string ⟨s.toArray⟩
  | .nilp, v => v = .pointer none
  | .ptr id off, v => id < Γ.n ∧ v = .pointer (some ⟨(Γ.β id).1, (Γ.β id).2 + off, none⟩)
  | .fptr cs off, v => ∃ b o, v = .pointer (some ⟨b, o + off, none⟩) ∧ Γ.Fz b ∧ CellsAt Γ cs b o
  | .nils, v => v = .slice none 0 0
  | .sl id off len sz lo ex, v => id < Γ.n ∧ ∃ o c e m, v = .slice (some ⟨(Γ.β id).1, o, none⟩) len c ∧ (c = 0 ∨ o = (Γ.β id).2 + off) ∧ len ≤ lo ∧ lo ≤ c ∧ (ex = true → c = lo) ∧
      Γ.w.shape? (Γ.β id).1 = some (e, m) ∧ o + c * sz ≤ m
  | .fsl cs len, v => (NilS v ∧ len = 0 ∧ cs = []) ∨ ∃ b o c, v = .slice (some ⟨b, o, none⟩) len c ∧ len ≤ c ∧ (cs = [] ∨ Γ.Fz b) ∧ CellsAt Γ cs b o
  | .esl, v => NilS v
  | .enn, v => ∃ (a : Addr) (c : Nat), v = .slice (some a) 0 c ∧ (c = 0 ∨ a.spot = none)
  | .nilm, v => v = .map none
  | .map id, v => id < Γ.n ∧ v = .map (some (Γ.β id).1)
  | .func f cs, v => ∃ vs, v = .func (.func f) #[] ⟨vs⟩ ∧ VRels Γ cs vs
  | .nilf, v => v = .nilFunc
  | .iface t a, v => ∃ u, v = .iface t u ∧ VRel Γ a u
  | .nili, v => v = .nilIface
  | .unk, v => ∃ k n, v = .int k n
  | .agg cs, v => ∃ vs, v = .agg ⟨vs⟩ ∧ VRels Γ cs vs ∧ ∀ u ∈ vs, one u = true
  | .tup cs, v => ∃ vs, v = .tuple ⟨vs⟩ ∧ VRels Γ cs vs
  | .yld id, v => id < Γ.n ∧ v = .func (.yield (Γ.β id).1) #[] #[]
  | .bound f cs, v => ∃ vs, v = .func (.func f) ⟨vs⟩ #[] ∧ VRels Γ cs vs
/-- One by one. -/
def VRels (Γ : Cx) : List AV → List Value → Prop
  | [], vs => vs = []
  | a :: as, vs => ∃ v vs', vs = v :: vs' ∧ VRel Γ a v ∧ VRels Γ as vs'
/-- These cells lie at a place. -/
def CellsAt (Γ : Cx) : List AV → Nat → Nat → Prop
  | [], _, _ => True
  | a :: as, b, o => (∃ v, Γ.w.cell? ⟨b, o, none⟩ = some v ∧ one v = true ∧ VRel Γ a v) ∧ CellsAt Γ as b (o + 1)
end

theorem VRels.length {Γ : Cx} : ∀ {as : List AV} {vs : List Value}, VRels Γ as vs → as.length = vs.length
  | [], vs, h => by simp only [VRels] at h; simp [h]
  | a :: as, vs, h => by
    simp only [VRels] at h
    obtain ⟨v, vs', rfl, _, h⟩ := h
    simp [h.length]

theorem VRels.get {Γ : Cx} : ∀ {as : List AV} {vs : List Value}, VRels Γ as vs → ∀ i, VRel Γ (as.getD i (.tup [])) (vs.getD i undef)
  | [], vs, h, i => by simp only [VRels] at h; subst h; simp [VRel, VRels, undef]
  | a :: as, vs, h, i => by
    simp only [VRels] at h
    obtain ⟨v, vs', rfl, hv, h⟩ := h
    cases i with
    | zero => simpa using hv
    | succ i => simpa using h.get i

theorem VRels.set {Γ : Cx} {a : AV} {v : Value} (hv : VRel Γ a v) : ∀ {as : List AV} {vs : List Value}, VRels Γ as vs → ∀ i, VRels Γ (as.set i a) (vs.set i v)
  | [], vs, h, i => by simp only [VRels] at h; subst h; simp [VRels]
  | a' :: as, vs, h, i => by
    simp only [VRels] at h
    obtain ⟨v', vs', rfl, hv', h⟩ := h
    cases i with
    | zero => simp only [List.set_cons_zero, VRels]; exact ⟨_, _, rfl, hv, h⟩
    | succ i => simp only [List.set_cons_succ, VRels]; exact ⟨_, _, rfl, hv', VRels.set hv h i⟩

theorem VRels.append {Γ : Cx} : ∀ {as bs : List AV} {vs us : List Value}, VRels Γ as vs → VRels Γ bs us → VRels Γ (as ++ bs) (vs ++ us)
  | [], bs, vs, us, h, k => by simp only [VRels] at h; subst h; simpa using k
  | a :: as, bs, vs, us, h, k => by
    simp only [VRels] at h
    obtain ⟨v, vs', rfl, hv, h⟩ := h
    simp only [List.cons_append, VRels]
    exact ⟨_, _, rfl, hv, h.append k⟩

theorem VRels.take {Γ : Cx} : ∀ {as : List AV} {vs : List Value}, VRels Γ as vs → ∀ n, VRels Γ (as.take n) (vs.take n)
  | [], vs, h, n => by simp only [VRels] at h; subst h; simp [VRels]
  | a :: as, vs, h, n => by
    simp only [VRels] at h
    obtain ⟨v, vs', rfl, hv, h⟩ := h
    cases n with
    | zero => simp [VRels]
    | succ n => simp only [List.take_succ_cons, VRels]; exact ⟨_, _, rfl, hv, h.take n⟩

theorem VRels.drop {Γ : Cx} : ∀ {as : List AV} {vs : List Value}, VRels Γ as vs → ∀ n, VRels Γ (as.drop n) (vs.drop n)
  | [], vs, h, n => by simp only [VRels] at h; subst h; simp [VRels]
  | a :: as, vs, h, n => by
    have h0 := h
    simp only [VRels] at h
    obtain ⟨v, vs', rfl, hv, h⟩ := h
    cases n with
    | zero => simpa using h0
    | succ n => simpa using h.drop n

theorem VRels.erase {Γ : Cx} : ∀ {as : List AV} {vs : List Value}, VRels Γ as vs → ∀ n, VRels Γ (as.eraseIdx n) (vs.eraseIdx n)
  | [], vs, h, n => by simp only [VRels] at h; subst h; simp [VRels]
  | a :: as, vs, h, n => by
    simp only [VRels] at h
    obtain ⟨v, vs', rfl, hv, h⟩ := h
    cases n with
    | zero => simpa using h
    | succ n => simp only [List.eraseIdx_cons_succ, VRels]; exact ⟨_, _, rfl, hv, h.erase n⟩

theorem VRels.reps {Γ : Cx} {a : AV} {v : Value} (h : VRel Γ a v) : ∀ n, VRels Γ (List.replicate n a) (List.replicate n v)
  | 0 => by simp [VRels]
  | n + 1 => by simp only [List.replicate_succ, VRels]; exact ⟨_, _, rfl, h, VRels.reps h n⟩

/-- What is known in the first place still holds in the second. -/
structure Le (Γ Δ : Cx) : Prop where
  n : Γ.n ≤ Δ.n
  β : ∀ i, i < Γ.n → Δ.β i = Γ.β i
  fz : ∀ b, Γ.Fz b → Δ.Fz b
  kept : ∀ b, Γ.Fz b → Δ.w.heap[b]? = Γ.w.heap[b]?
  shape : ∀ b s, Γ.w.shape? b = some s → Δ.w.shape? b = some s
  lc : Δ.lc = Γ.lc

theorem Le.refl (Γ : Cx) : Le Γ Γ := ⟨Nat.le_refl _, fun _ _ => rfl, fun _ h => h, fun _ _ => rfl, fun _ _ h => h, rfl⟩
theorem Le.trans {Γ Δ Θ : Cx} (h : Le Γ Δ) (k : Le Δ Θ) : Le Γ Θ :=
  ⟨Nat.le_trans h.n k.n, fun i hi => (k.β i (Nat.lt_of_lt_of_le hi h.n)).trans (h.β i hi), fun b hb => k.fz b (h.fz b hb),
    fun b hb => (k.kept b (h.fz b hb)).trans (h.kept b hb), fun b s hs => k.shape b s (h.shape b s hs), k.lc.trans h.lc⟩

theorem cell?_eq {w w' : World} {b : Nat} (h : w'.heap[b]? = w.heap[b]?) (o : Nat) : w'.cell? ⟨b, o, none⟩ = w.cell? ⟨b, o, none⟩ := by
  simp [World.cell?, h]

mutual
theorem VRel.le {Γ Δ : Cx} (h : Le Γ Δ) : ∀ {a : AV} {v : Value}, VRel Γ a v → VRel Δ a v
  | .int k n, v, hv | .bool _, v, hv | .str _, v, hv | .nilp, v, hv | .nils, v, hv | .nilm, v, hv | .nilf, v, hv | .nili, v, hv | .unk, v, hv => by simpa only [VRel] using hv
  | .ptr id off, v, hv => by
    simp only [VRel] at hv ⊢
    exact ⟨Nat.lt_of_lt_of_le hv.1 h.n, by rw [h.β id hv.1]; exact hv.2⟩
  | .map id, v, hv => by
    simp only [VRel] at hv ⊢
    exact ⟨Nat.lt_of_lt_of_le hv.1 h.n, by rw [h.β id hv.1]; exact hv.2⟩
  | .yld id, v, hv => by
    simp only [VRel] at hv ⊢
    exact ⟨Nat.lt_of_lt_of_le hv.1 h.n, by rw [h.β id hv.1]; exact hv.2⟩
  | .bound f cs, v, hv => by
    simp only [VRel] at hv ⊢
    obtain ⟨vs, rfl, hvs⟩ := hv
    exact ⟨vs, rfl, VRels.le h hvs⟩
  | .fptr cs off, v, hv => by
    simp only [VRel] at hv ⊢
    obtain ⟨b, o, rfl, hb, hc⟩ := hv
    exact ⟨b, o, rfl, h.fz b hb, CellsAt.le h (fun o => cell?_eq (h.kept b hb) o) hc⟩
  | .sl id off len sz lo ex, v, hv => by
    simp only [VRel] at hv ⊢
    obtain ⟨hi, o, c, e, m, hv, ho, h1, h2, h3, h4, h5⟩ := hv
    refine ⟨Nat.lt_of_lt_of_le hi h.n, o, c, e, m, ?_⟩
    rw [h.β id hi]
    exact ⟨hv, ho, h1, h2, h3, h.shape _ _ h4, h5⟩
  | .fsl cs len, v, hv => by
    simp only [VRel] at hv ⊢
    rcases hv with hv | ⟨b, o, c, hv, hl, hb, hc⟩
    · exact .inl hv
    refine .inr ⟨b, o, c, hv, hl, hb.imp id (h.fz b), ?_⟩
    rcases hb with rfl | hb
    · simp [CellsAt]
    · exact CellsAt.le h (fun o => cell?_eq (h.kept b hb) o) hc
  | .esl, v, hv => by simpa only [VRel] using hv
  | .enn, v, hv => by simpa only [VRel] using hv
  | .func f cs, v, hv => by
    simp only [VRel] at hv ⊢
    obtain ⟨vs, rfl, hvs⟩ := hv
    exact ⟨vs, rfl, VRels.le h hvs⟩
  | .iface t a, v, hv => by
    simp only [VRel] at hv ⊢
    obtain ⟨u, rfl, hu⟩ := hv
    exact ⟨u, rfl, VRel.le h hu⟩
  | .agg cs, v, hv => by
    simp only [VRel] at hv ⊢
    obtain ⟨vs, rfl, hvs, h1⟩ := hv
    exact ⟨vs, rfl, VRels.le h hvs, h1⟩
  | .tup cs, v, hv => by
    simp only [VRel] at hv ⊢
    obtain ⟨vs, rfl, hvs⟩ := hv
    exact ⟨vs, rfl, VRels.le h hvs⟩
theorem VRels.le {Γ Δ : Cx} (h : Le Γ Δ) : ∀ {as : List AV} {vs : List Value}, VRels Γ as vs → VRels Δ as vs
  | [], vs, hv => by simpa only [VRels] using hv
  | a :: as, vs, hv => by
    simp only [VRels] at hv ⊢
    obtain ⟨v, vs', rfl, h1, h2⟩ := hv
    exact ⟨v, vs', rfl, VRel.le h h1, VRels.le h h2⟩
/-- The block's cells being as they were. -/
theorem CellsAt.le {Γ Δ : Cx} (h : Le Γ Δ) {b : Nat} (hb : ∀ o, Δ.w.cell? ⟨b, o, none⟩ = Γ.w.cell? ⟨b, o, none⟩) : ∀ {as : List AV} {o : Nat}, CellsAt Γ as b o → CellsAt Δ as b o
  | [], o, hv => by simp [CellsAt]
  | a :: as, o, hv => by
    simp only [CellsAt] at hv ⊢
    obtain ⟨⟨v, h1, h2, h3⟩, h4⟩ := hv
    exact ⟨⟨v, (hb o).trans h1, h2, VRel.le h h3⟩, CellsAt.le h hb h4⟩
end

theorem CellsAt.get {Γ : Cx} {b : Nat} : ∀ {as : List AV} {o : Nat}, CellsAt Γ as b o → ∀ i a, as[i]? = some a → ∃ v, Γ.w.cell? ⟨b, o + i, none⟩ = some v ∧ one v = true ∧ VRel Γ a v
  | [], o, _, i, a, ha => by simp at ha
  | a' :: as, o, h, i, a, ha => by
    simp only [CellsAt] at h
    cases i with
    | zero => simp at ha; subst ha; simpa using h.1
    | succ i =>
      have := h.2.get i a (by simpa using ha)
      rwa [Nat.add_assoc, Nat.add_comm 1 i] at this

theorem CellsAt.of {Γ : Cx} {b : Nat} : ∀ {as : List AV} {o : Nat}, (∀ i a, as[i]? = some a → ∃ v, Γ.w.cell? ⟨b, o + i, none⟩ = some v ∧ one v = true ∧ VRel Γ a v) → CellsAt Γ as b o
  | [], o, _ => by simp [CellsAt]
  | a :: as, o, h => by
    simp only [CellsAt]
    refine ⟨by simpa using h 0 a rfl, CellsAt.of fun i x hx => ?_⟩
    have := h (i + 1) x (by simpa using hx)
    rwa [Nat.add_assoc, Nat.add_comm 1 i]

theorem CellsAt.drop {Γ : Cx} {b : Nat} {as : List AV} {o : Nat} (h : CellsAt Γ as b o) (n : Nat) : CellsAt Γ (as.drop n) b (o + n) :=
  CellsAt.of fun i a ha => by
    rw [List.getElem?_drop] at ha
    have := h.get (n + i) a ha
    rwa [← Nat.add_assoc] at this

theorem CellsAt.take {Γ : Cx} {b : Nat} {as : List AV} {o : Nat} (h : CellsAt Γ as b o) (n : Nat) : CellsAt Γ (as.take n) b o :=
  CellsAt.of fun i a ha => by
    rw [List.getElem?_take] at ha
    split at ha
    · exact h.get i a ha
    · cases ha

theorem CellsAt.append {Γ : Cx} {b : Nat} {as bs : List AV} {o : Nat} (h : CellsAt Γ as b o) (k : CellsAt Γ bs b (o + as.length)) : CellsAt Γ (as ++ bs) b o :=
  CellsAt.of fun i a ha => by
    rw [List.getElem?_append] at ha
    split at ha
    · exact h.get i a ha
    · rename_i hlt
      have := k.get _ a ha
      rwa [Nat.add_assoc, show as.length + (i - as.length) = i by omega] at this

theorem one_oneCell {v : Value} (h : one v = true) : v.cells = #[v] := by
  cases v <;> simp_all [one, Value.cells]

/-- The cells of a row, read as a list. -/
theorem CellsAt.list {Γ : Cx} {b : Nat} : ∀ {as : List AV} {o : Nat}, CellsAt Γ as b o → ∃ vs, VRels Γ as vs ∧ vs.length = as.length ∧ (∀ v ∈ vs, one v = true) ∧ ∀ j v, vs[j]? = some v → Γ.w.cell? ⟨b, o + j, none⟩ = some v
  | [], o, _ => ⟨[], by simp [VRels], rfl, by simp, by simp⟩
  | a :: as, o, h => by
    simp only [CellsAt] at h
    obtain ⟨⟨v, h1, h2, h3⟩, h4⟩ := h
    obtain ⟨vs, k1, k2, k3, k4⟩ := h4.list
    refine ⟨v :: vs, by simp only [VRels]; exact ⟨_, _, rfl, h3, k1⟩, by simp [k2], ?_, ?_⟩
    · intro u hu
      rcases List.mem_cons.1 hu with rfl | hu
      · exact h2
      · exact k3 u hu
    · intro j u hu
      cases j with
      | zero => simp at hu; subst hu; simpa using h1
      | succ j => have := k4 j u (by simpa using hu); rwa [Nat.add_assoc, Nat.add_comm 1 j] at this

/-- The jump that a round has left. -/
def pendC : Option (Option Nat) → Option Code
  | none => none
  | some none => some .ret
  | some (some id) => some (.exit id)

/-- An iterator over a map, or over a string. -/
def IterOk (o : Option Obj) (v : Value) (since : Nat) (seen : List Nat) (last : Nat) : Prop := (∃ mo, v = .map mo ∧ o = some (.mapIter mo since ⟨seen⟩ last)) ∨ ∃ s, v = .string s ∧ o = some (.stringIter s since)

/-- What a block of the abstract memory stands for. -/
def BRel (Γ : Cx) (b : Nat × Nat) : Blk → Prop
  | .row e cs => (∃ c fr, Γ.w.heap[b.1]? = some (.cells c e fr) ∧ fr.1 ≤ fr.2 ∧ ∀ o, o < c.size → ¬ (fr.1 ≤ o ∧ o < fr.2)) ∧ CellsAt Γ cs b.1 b.2
  | .iter is since seen last => ∃ v, (IterOk Γ.w.heap[b.1]? v since seen last ∧ b.2 = 0) ∧ VRels Γ is [v]
  | .map es bs clock0 => ∃ ms clock, Γ.w.heap[b.1]? = some (.map ms clock) ∧ (ms.toList.map (·.born)).Nodup ∧ (∀ m ∈ ms.toList, m.born < clock) ∧
      VRels Γ (es.map (·.1)) (ms.toList.map (·.key)) ∧ VRels Γ (es.map (·.2)) (ms.toList.map (·.val)) ∧ ms.toList.map (·.born) = bs ∧ clock = clock0
  | .loop tms key st pend => ∃ (fn : FuncId) (vs : List Value) (d : Nat), Γ.w.heap[b.1]? = some (.loop { state := st, pending := pendC pend, fn := fn, tmps := ⟨vs⟩, params := (Γ.lc key).params, assign := (Γ.lc key).assign, body := (Γ.lc key).body, defers := d }) ∧ VRels Γ tms vs

/-- Package variables of the program that nobody writes: their blocks, and what lies there. -/
def globals : List (Nat × List AV) := []
/-- Package variables that hold a number that nobody writes, and that is not known. -/
def globalsI : List Nat := []
/-- What they hold is there. -/
structure GOk (Γ : Cx) : Prop where
  at_ : ∀ x ∈ globals, VRel Γ (.fptr x.2 0) (.pointer (some ⟨x.1, 0, none⟩))
  int : ∀ g ∈ globalsI, Γ.Fz g ∧ ∃ n : Int, Γ.w.cell? ⟨g, 0, none⟩ = some (.int .i64 n)
theorem GOk.le {Γ Δ : Cx} (h : Le Γ Δ) (g : GOk Γ) : GOk Δ := ⟨fun x hx => (g.at_ x hx).le h, fun x hx => ⟨h.fz x (g.int x hx).1, by
  obtain ⟨h1, n, h2⟩ := g.int x hx
  exact ⟨n, (cell?_eq (h.kept x h1) 0).trans h2⟩⟩⟩

def litA : AV → Bool
  | .int _ _ | .bool _ | .str _ | .nilp | .nils | .nilm | .nilf | .nili => true
  | _ => false
theorem litA_rel {Γ Γ' : Cx} : ∀ {a : AV} {v : Value}, litA a = true → VRel Γ a v → VRel Γ' a v
  | .int k n, _, _, h | .bool b, _, _, h | .str s, _, _, h | .nilp, _, _, h | .nils, _, _, h | .nilm, _, _, h | .nilf, _, _, h | .nili, _, _, h => by simpa only [VRel] using h
set_option maxRecDepth 20000 in
theorem globals_lit : globals.all (fun x => x.2.all litA) = true := rfl
theorem GOk.same {Γ Γ' : Cx} (g : GOk Γ) (hw : Γ'.w = Γ.w) (hz : ∀ b, Γ.Fz b → Γ'.Fz b) : GOk Γ' := by
  refine ⟨fun x hx => ?_, fun x hx => ⟨hz x (g.int x hx).1, by rw [hw]; exact (g.int x hx).2⟩⟩
  have h := g.at_ x hx
  simp only [VRel] at h ⊢
  obtain ⟨b, o, h1, h2, h3⟩ := h
  refine ⟨b, o, h1, hz b h2, CellsAt.of fun i a ha => ?_⟩
  obtain ⟨v, k1, k2, k3⟩ := h3.get i a ha
  exact ⟨v, by rw [hw]; exact k1, k2, litA_rel (List.all_eq_true.1 (List.all_eq_true.1 globals_lit x hx) a (List.mem_of_getElem? ha)) k3⟩

/-- The abstract memory stands for the world's. -/
structure HSim (Γ : Cx) (hp : HP) : Prop where
  len : hp.length = Γ.n
  blk : ∀ i x, hp[i]? = some (some x) → BRel Γ (Γ.β i) x ∧ ¬ Γ.Fz (Γ.β i).1 ∧ (Γ.β i).1 < Γ.w.heap.size
  inj : ∀ i j x y, hp[i]? = some (some x) → hp[j]? = some (some y) → (Γ.β i).1 = (Γ.β j).1 → i = j
  fz : ∀ b, Γ.Fz b → b < Γ.w.heap.size
  gl : GOk Γ

/-- A block of the world that is one of the abstract memory's. -/
def Live (Γ : Cx) (hp : HP) (b : Nat) : Prop := ∃ i x, hp[i]? = some (some x) ∧ (Γ.β i).1 = b

/-- From one state to a later one: what is not ours is as it was. -/
structure Ev (Γ : Cx) (hp : HP) (Δ : Cx) (hp' : HP) : Prop where
  le : Le Γ Δ
  os : Δ.w.os = Γ.w.os
  tape : Δ.w.tape = Γ.w.tape
  output : Δ.w.output = Γ.w.output
  size : Γ.w.heap.size ≤ Δ.w.heap.size
  frame : ∀ b, b < Γ.w.heap.size → ¬ Live Γ hp b → Δ.w.heap[b]? = Γ.w.heap[b]?
  live : ∀ b, Live Δ hp' b → Γ.w.heap.size ≤ b ∨ Live Γ hp b
  fz : ∀ b, Δ.Fz b → Γ.Fz b ∨ Γ.w.heap.size ≤ b ∨ Live Γ hp b
  s0 : Δ.s0 = Γ.s0

theorem Ev.refl (Γ : Cx) (hp : HP) : Ev Γ hp Γ hp :=
  ⟨Le.refl Γ, rfl, rfl, rfl, Nat.le_refl _, fun _ _ _ => rfl, fun _ h => .inr h, fun _ h => .inl h, rfl⟩

theorem Ev.trans {Γ Δ Θ : Cx} {h1 h2 h3 : HP} (p : Ev Γ h1 Δ h2) (q : Ev Δ h2 Θ h3) : Ev Γ h1 Θ h3 where
  le := p.le.trans q.le
  os := q.os.trans p.os
  tape := q.tape.trans p.tape
  output := q.output.trans p.output
  size := Nat.le_trans p.size q.size
  frame b hb hn := by
    have := p.size
    refine (q.frame b (by omega) fun hl => ?_).trans (p.frame b hb hn)
    rcases p.live b hl with h | h
    · omega
    · exact hn h
  live b hb := by
    have := p.size
    rcases q.live b hb with h | h
    · exact .inl (by omega)
    · exact p.live b h
  fz b hb := by
    have := p.size
    rcases q.fz b hb with h | h | h
    · exact p.fz b h
    · exact .inr (.inl (by omega))
    · rcases p.live b h with h | h
      · exact .inr (.inl h)
      · exact .inr (.inr h)
  s0 := q.s0.trans p.s0

/-- The activation's deferred calls are marks of loops over functions, each of a block of the world that is this activation's own, and nobody's else. -/
def MarksOk (Γ : Cx) (hp : HP) (ds : List Deferred) : Prop := Γ.s0 ≤ Γ.w.heap.size ∧ ∃ ks : List Nat, ds = ks.map (fun k => { target := .collected k, args := #[] }) ∧ ks.Nodup ∧ ∀ k ∈ ks, Γ.w.heap[k]? = some (.deferred (some [])) ∧ ¬ Live Γ hp k ∧ ¬ Γ.Fz k ∧ Γ.s0 ≤ k
theorem MarksOk.nil {Γ : Cx} (h : Γ.s0 ≤ Γ.w.heap.size) (hp : HP) : MarksOk Γ hp [] := ⟨h, [], rfl, List.nodup_nil, fun k hk => by cases hk⟩
theorem MarksOk.ev {Γ Δ : Cx} {hp hp' : HP} {ds : List Deferred} (h : MarksOk Γ hp ds) (e : Ev Γ hp Δ hp') : MarksOk Δ hp' ds := by
  obtain ⟨h0, ks, h1, h2, h3⟩ := h
  refine ⟨by rw [e.s0]; exact Nat.le_trans h0 e.size, ks, h1, h2, fun k hk => ?_⟩
  obtain ⟨q1, q2, q3, q4⟩ := h3 k hk
  have hlt : k < Γ.w.heap.size := (Array.getElem?_eq_some_iff.1 q1).1
  refine ⟨(e.frame k hlt q2).trans q1, fun hl => ?_, fun hf => ?_, by rw [e.s0]; exact q4⟩
  · rcases e.live k hl with h | h
    · omega
    · exact q2 h
  · rcases e.fz k hf with h | h | h
    · exact q3 h
    · omega
    · exact q2 h

/-- The same at another count of draws. -/
def Cx.drewN (Γ : Cx) (m : Nat) : Cx := { Γ with w := { Γ.w with drawn := Γ.w.drawn + m } }

theorem Le.drewN (Γ : Cx) (m : Nat) : Le Γ (Γ.drewN m) := ⟨Nat.le_refl _, fun _ _ => rfl, fun _ h => h, fun _ _ => rfl, fun _ _ h => h, rfl⟩
theorem Ev.drewN (Γ : Cx) (hp : HP) (m : Nat) : Ev Γ hp (Γ.drewN m) hp :=
  ⟨Le.drewN Γ m, rfl, rfl, rfl, Nat.le_refl _, fun _ _ _ => rfl, fun _ h => .inr h, fun _ h => .inl h, rfl⟩

theorem BRel.le {Γ Δ : Cx} (h : Le Γ Δ) {b : Nat × Nat} (hb : Δ.w.heap[b.1]? = Γ.w.heap[b.1]?) : ∀ {x : Blk}, BRel Γ b x → BRel Δ b x
  | .row e cs, hx => by
    simp only [BRel] at hx ⊢
    obtain ⟨⟨c, fr, h1, h2⟩, h3⟩ := hx
    exact ⟨⟨c, fr, hb.trans h1, h2⟩, CellsAt.le h (fun o => cell?_eq hb o) h3⟩
  | .iter is since seen last, hx => by
    simp only [BRel] at hx ⊢
    obtain ⟨mo, h1, h2⟩ := hx
    exact ⟨mo, ⟨by rw [hb]; exact h1.1, h1.2⟩, h2.le h⟩
  | .map es bs clock0, hx => by
    simp only [BRel] at hx ⊢
    obtain ⟨ms, clock, h1, h2, h3, h4, h5, h6⟩ := hx
    exact ⟨ms, clock, hb.trans h1, h2, h3, h4.le h, h5.le h, h6⟩
  | .loop tms key st pend, hx => by
    simp only [BRel] at hx ⊢
    obtain ⟨fn, vs, d, h1, h2⟩ := hx
    exact ⟨fn, vs, d, by rw [h.lc]; exact hb.trans h1, h2.le h⟩

theorem HSim.drewN {Γ : Cx} {hp : HP} (h : HSim Γ hp) (m : Nat) : HSim (Γ.drewN m) hp :=
  ⟨h.len, fun i x hx => ⟨BRel.le (Le.drewN Γ m) rfl (h.blk i x hx).1, (h.blk i x hx).2⟩, h.inj, h.fz, h.gl.le (Le.drewN Γ m)⟩

end Go.Gi
