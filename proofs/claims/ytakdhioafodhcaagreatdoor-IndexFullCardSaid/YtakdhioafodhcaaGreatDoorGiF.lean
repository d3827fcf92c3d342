/- Structs and arrays written out, makes, conversions, len, clear, copy. -/
import Derived.Test.YtakdhioafodhcaaGreatDoorGiE
import Derived.Laws.Tables
set_option linter.unusedVariables false
set_option linter.unusedSimpArgs false
namespace Go.Gi
open Go

theorem VRels.over {Γ : Cx} {as bs : List AV} {vs us : List Value} (h : VRels Γ as vs) (k : VRels Γ bs us) (o : Nat) : VRels Γ (over as o bs) (over vs o us) := by
  unfold Gi.over
  rw [k.length]
  exact ((h.take o).append k).append (h.drop _)

/-! ### Structs and arrays -/
def fillA (places : List (Nat × Nat)) : List AV → List (Nat × AV) → Option (List AV)
  | cells, [] => some cells
  | _, (_, .tup _) :: _ => none
  | cells, (i, x) :: rest =>
    match places[i]? with
    | some (off, size) => if (cellsA x).length = size ∧ off + size ≤ cells.length then fillA places (over cells off (cellsA x)) rest else none
    | none => none

theorem mem_over {l vs : List Value} {o : Nat} {u : Value} (h : u ∈ over l o vs) : u ∈ l ∨ u ∈ vs := by
  simp only [over, List.mem_append] at h
  rcases h with (h | h) | h
  · exact .inl (List.mem_of_mem_take h)
  · exact .inr h
  · exact .inl (List.mem_of_mem_drop h)

theorem fillA_rel {Γ : Cx} {places : List (Nat × Nat)} {place : Nat → Option (Nat × Nat)} (hp : ∀ i, place i = places[i]?) : ∀ {parts : List (Nat × AV)} {vs : List (Nat × Value)} {cells : List AV} {c : List Value} {r : List AV},
    parts.map (·.1) = vs.map (·.1) → VRels Γ (parts.map (·.2)) (vs.map (·.2)) → VRels Γ cells c → (∀ u ∈ c, one u = true) → fillA places cells parts = some r →
    ∃ d, Instr.fill place ⟨c⟩ vs = some ⟨d⟩ ∧ VRels Γ r d ∧ (∀ u ∈ d, one u = true) ∧ r.length = cells.length
  | [], vs, cells, c, r, hi, hv, hc, h1, h => by
    have : vs = [] := by cases vs <;> simp_all
    subst this
    simp only [fillA, Option.some.injEq] at h
    subst h
    exact ⟨c, rfl, hc, h1, rfl⟩
  | (i, x) :: parts, vs, cells, c, r, hi, hv, hc, h1, h => by
    rcases vs with _ | ⟨⟨j, v⟩, vs⟩
    · simp at hi
    · simp only [List.map_cons, List.cons.injEq] at hi
      obtain ⟨rfl, hi⟩ := hi
      simp only [List.map_cons, VRels, List.cons.injEq] at hv
      obtain ⟨v', vs', ⟨rfl, rfl⟩, hv, hvs⟩ := hv
      have ht : ∀ l, x ≠ .tup l := by rintro l rfl; simp [fillA] at h
      have h' : (match places[i]? with
          | some (off, size) => if (cellsA x).length = size ∧ off + size ≤ cells.length then fillA places (over cells off (cellsA x)) parts else none
          | none => none) = some r := by
        cases x <;> first | exact absurd rfl (ht _) | exact h
      split at h'
      · rename_i off size hpl
        split at h'
        · rename_i hcond
          obtain ⟨k1, k2⟩ := cells_rel hv ht
          have hl := k1.length
          rw [toList_length v.cells] at hl
          have hcl := hc.length
          obtain ⟨d, q1, q2, q3, q4⟩ := fillA_rel hp (c := over c off v.cells.toList) hi hvs (hc.over k1 off) (fun u hu => (mem_over hu).elim (h1 u) (k2 u)) h'
          refine ⟨d, ?_, q2, q3, by rw [q4, over_length _ _ _ (by omega)]⟩
          simp only [Instr.fill, hp, hpl]
          rw [if_neg (by simp; omega)]
          have hf : (v.cells.zipIdx.foldl (fun (cs : Array Value) (p : Value × Nat) => match p with | (c, j) => cs.setIfInBounds (off + j) c) ⟨c⟩) = ⟨over c off v.cells.toList⟩ := by
            rw [← Array.foldl_toList, Array.toList_zipIdx]
            have := foldl_set off v.cells.toList 0 c (by simp; omega)
            simpa using this
          rw [hf]
          exact q1
        · cases h'
      · cases h'

/-- The places of a type's parts, and its zero value's cells. -/
def placesP (P : Program) (t : TypeId) : Option (List (Nat × Nat)) :=
  match P.underlying t with
  | some (.struct fields) => fields.toList.mapM (fun f => (P.info? f.type).map fun i => (f.offset, i.size))
  | some (.array n e) => (P.info? e).map fun i => (List.range n).map fun j => (j * i.size, i.size)
  | _ => none

theorem build_ok {P : Program} {Γ : Cx} {hp : HP} (h : HSim Γ hp) {t : TypeId} {Z : List AV} (hz : zeroP P t = some Z) {places : List (Nat × Nat)} (hpl : placesP P t = some places) {parts : List (Nat × AV)} {vs : List (Nat × Value)}
    (hi : parts.map (·.1) = vs.map (·.1)) (hv : VRels Γ (parts.map (·.2)) (vs.map (·.2))) {r : List AV} (hr : fillA places Z parts = some r) : OpOk P Γ hp (Instr.build t ⟨vs⟩) (.agg r) hp := by
  obtain ⟨i, z, hi', hz', hs, hl, key⟩ := zeroP_some hz
  unfold placesP at hpl
  split at hpl
  · rename_i fields hu
    obtain ⟨d, q1, q2, q3, q4⟩ := fillA_rel (place := (places.toArray[·]?)) (fun i => by simp) hi hv (key Γ).1 (key Γ).2 hr
    refine OpOk.same h (v := .agg ⟨d⟩) (run_build Γ.w t ⟨vs⟩ ⟨d⟩ ?_) (by simp only [VRel]; exact ⟨d, rfl, q2, q3⟩)
    simp only [Program.built, hi', hu, hz', hpl]
    exact q1
  · rename_i n e hu
    cases hie : P.info? e with
    | none => simp [hie] at hpl
    | some ie =>
      simp only [hie, Option.map_some, Option.some.injEq] at hpl
      subst hpl
      have gen : ∀ (parts : List (Nat × AV)) (vs : List (Nat × Value)) (cells : List AV) (c : List Value) (r : List AV), parts.map (·.1) = vs.map (·.1) → VRels Γ (parts.map (·.2)) (vs.map (·.2)) → VRels Γ cells c → (∀ u ∈ c, one u = true) →
          fillA ((List.range n).map fun j => (j * ie.size, ie.size)) cells parts = some r → ∃ d, Instr.fill (fun i => some (i * ie.size, ie.size)) ⟨c⟩ vs = some ⟨d⟩ ∧ VRels Γ r d ∧ (∀ u ∈ d, one u = true) := by
        intro parts
        induction parts with
        | nil =>
          intro vs cells c r hi hv hc h1 h
          have : vs = [] := by cases vs <;> simp_all
          subst this
          simp only [fillA, Option.some.injEq] at h
          subst h
          exact ⟨c, rfl, hc, h1⟩
        | cons p parts ih =>
          obtain ⟨i, x⟩ := p
          intro vs cells c r hi hv hc h1 h
          rcases vs with _ | ⟨⟨j, v⟩, vs⟩
          · simp at hi
          · simp only [List.map_cons, List.cons.injEq] at hi
            obtain ⟨rfl, hi⟩ := hi
            simp only [List.map_cons, VRels, List.cons.injEq] at hv
            obtain ⟨v', vs', ⟨rfl, rfl⟩, hv, hvs⟩ := hv
            have ht : ∀ l, x ≠ .tup l := by rintro l rfl; simp [fillA] at h
            have h' : (match ((List.range n).map fun j => (j * ie.size, ie.size))[i]? with
                | some (off, size) => if (cellsA x).length = size ∧ off + size ≤ cells.length then fillA ((List.range n).map fun j => (j * ie.size, ie.size)) (over cells off (cellsA x)) parts else none
                | none => none) = some r := by
              cases x <;> first | exact absurd rfl (ht _) | exact h
            split at h'
            · rename_i off size hpl'
              split at h'
              · rename_i hcond
                have hoff : off = i * ie.size ∧ size = ie.size := by
                  rw [List.getElem?_map] at hpl'
                  cases hg : (List.range n)[i]? with
                  | none => simp [hg] at hpl'
                  | some a =>
                    have : a = i := by
                      have := List.getElem?_eq_some_iff.1 hg
                      obtain ⟨h1, h2⟩ := this
                      simpa using h2.symm
                    subst this
                    simp [hg] at hpl'
                    exact ⟨hpl'.1.symm, hpl'.2.symm⟩
                obtain ⟨rfl, rfl⟩ := hoff
                obtain ⟨k1, k2⟩ := cells_rel hv ht
                have hl := k1.length
                rw [toList_length v.cells] at hl
                have hcl := hc.length
                obtain ⟨d, q1, q2, q3⟩ := ih vs _ (over c (i * ie.size) v.cells.toList) r hi hvs (hc.over k1 _) (fun u hu => (mem_over hu).elim (h1 u) (k2 u)) h'
                refine ⟨d, ?_, q2, q3⟩
                simp only [Instr.fill]
                rw [if_neg (by simp; omega)]
                have hf : (v.cells.zipIdx.foldl (fun (cs : Array Value) (p : Value × Nat) => match p with | (c, j) => cs.setIfInBounds (i * ie.size + j) c) ⟨c⟩) = ⟨over c (i * ie.size) v.cells.toList⟩ := by
                  rw [← Array.foldl_toList, Array.toList_zipIdx]
                  have := foldl_set (i * ie.size) v.cells.toList 0 c (by simp; omega)
                  simpa using this
                rw [hf]
                exact q1
              · cases h'
            · cases h'
      obtain ⟨d, q1, q2, q3⟩ := gen parts vs Z z.cells.toList r hi hv (key Γ).1 (key Γ).2 hr
      refine OpOk.same h (v := .agg ⟨d⟩) (run_build Γ.w t ⟨vs⟩ ⟨d⟩ ?_) (by simp only [VRel]; exact ⟨d, rfl, q2, q3⟩)
      simp only [Program.built, hi', hu, hz', hie]
      exact q1
  · cases hpl

/-! ### make -/
def makeA (hp : HP) (e : TypeId) (Z : List AV) (bytes : Nat) (l c : AV) : Option (AV × HP) :=
  match l, c with
  | .int _ l, .int _ c => if 0 ≤ l ∧ l ≤ c ∧ (bytes : Int) * c ≤ 281474976710656 ∧ c ≤ 9223372036854775807 then some (.sl hp.length 0 l.toNat Z.length c.toNat true, hp ++ [some (.row e (zerosA Z c.toNat))]) else none
  | _, _ => none

theorem make_ok {P : Program} {Γ : Cx} {hp hp' : HP} (h : HSim Γ hp) {t e : TypeId} {sz bytes : Nat} (ht : elemP P t = some (e, sz, bytes)) {Z : List AV} (hz : zeroP P e = some Z) {l c r : AV} {vl vc : Value} (hl : VRel Γ l vl) (hc : VRel Γ c vc)
    (hr : makeA hp e Z bytes l c = some (r, hp')) : OpOk P Γ hp (Instr.makeSlice t vl vc) r hp' := by
  obtain ⟨hut, i, z, hi, hzz, hzs, rfl, rfl⟩ := elemP_some ht
  obtain ⟨i', z', hi', hz', hs', hZl, key⟩ := zeroP_some hz
  rw [hi] at hi'; cases hi'
  rw [hzz] at hz'; cases hz'
  unfold makeA at hr
  split at hr
  · rename_i k1 l k2 c
    split at hr
    · rename_i hcond
      obtain ⟨h0, h1, h2, h3⟩ := hcond
      simp only [Option.some.injEq, Prod.mk.injEq] at hr
      obtain ⟨rfl, rfl⟩ := hr
      simp only [VRel] at hl hc
      subst hl hc
      have hrun := run_make (P := P) Γ.w t e i z hut hi hzz k1 k2 l c h0 h1 h2 h3
      have hcyc : madeCells z.cells (c.toNat * i.size) = ⟨(List.replicate c.toNat z.cells.toList).flatten⟩ := by
        rw [← cycle_list z.cells c.toNat, ← hzs]
        rfl
      obtain ⟨q1, q2⟩ := zeros_rel (key Γ).1 (key Γ).2 c.toNat
      obtain ⟨Δ, r1, r2, r3, r4, r5, r6⟩ := newRow_ok (P := P) h e q1 q2 []
      simp only [List.append_nil] at r1 r6
      have hw : Γ.w.alloc (.cells (madeCells z.cells (c.toNat * i.size)) e) = Δ.w := by
        rw [hcyc]
        simp only [newRow, Sem.run_bind, run_newObj, Result.andThen_ok, Sem.run_pure, Result.ok.injEq] at r1
        exact r1.2
      refine ⟨_, Δ, by rw [hrun, hw], ?_, r2, r3⟩
      simp only [VRel]
      refine ⟨by have := r2.len; simp at this; omega, 0, _, _, _, by rw [r5], .inr (by rw [r5]), by omega, Nat.le_refl _, by simp, by rw [r5]; exact r6, ?_⟩
      have hfl : ∀ n, (List.replicate n z.cells.toList).flatten.length = n * i.size := by
        intro n
        induction n with
        | zero => simp
        | succ n ih => rw [List.replicate_succ, List.flatten_cons, List.length_append, ih, toList_length z.cells, hzs, Nat.add_mul]; omega
      rw [hfl, hZl]
      omega
    · cases hr
  · cases hr

/-! ### Conversions -/
def unbyte : List AV → Option (List UInt8)
  | [] => some []
  | .int .u8 n :: as => if 0 ≤ n ∧ n < 256 then (unbyte as).map (UInt8.ofNat n.toNat :: ·) else none
  | _ :: _ => none

def s2bA (hp : HP) (e : TypeId) : AV → Option (AV × HP)
  | .str s => some (.sl hp.length 0 s.length 1 s.length false, hp ++ [some (.row e (s.map byteA))])
  | _ => none

def b2sA (hp : HP) (x : AV) : Option AV :=
  match srcA hp 1 x with
  | some (as, _) => match x with
    | .str _ => none
    | _ => (unbyte as).map .str
  | none => none

theorem bytes_rel {Γ : Cx} (s : List UInt8) : VRels Γ (s.map byteA) (s.map fun b => Value.int .u8 b.toNat) := by
  induction s with
  | nil => simp [VRels]
  | cons b s ih => simp only [List.map_cons, VRels]; exact ⟨_, _, rfl, by simp [byteA, VRel], ih⟩

theorem s2b_ok {P : Program} {Γ : Cx} {hp hp' : HP} (h : HSim Γ hp) {src dst e : TypeId} (hs : P.underlying src = some .string) (hd : P.underlying dst = some (.slice e)) (he : P.underlying e = some (.int .u8)) {x r : AV} {v : Value} (hv : VRel Γ x v)
    (hr : s2bA hp e x = some (r, hp')) : OpOk P Γ hp (convert src dst v) r hp' := by
  unfold s2bA at hr
  split at hr
  · rename_i s
    simp only [Option.some.injEq, Prod.mk.injEq] at hr
    obtain ⟨rfl, rfl⟩ := hr
    simp only [VRel] at hv
    subst hv
    have hrun := run_bytes_of_string (P := P) Γ.w src dst e ⟨s.toArray⟩ hs hd he
    have hn : (⟨s.toArray⟩ : ByteArray).size = s.length := by simp [ByteArray.size]
    rw [hn] at hrun
    have hge := grownCap_ge Γ.w s.length 0 e
    generalize grownCap Γ.w s.length 0 e = c at hrun hge
    have hbr : bytesRow ⟨s.toArray⟩ c = ⟨(s.map fun b => Value.int .u8 b.toNat) ++ List.replicate (c - s.length) (.int .u8 0)⟩ := by
      apply Array.ext'
      simp [bytesRow, hn]
    rw [hbr] at hrun
    generalize hmore : List.replicate (c - s.length) (Value.int .u8 0) = more at hrun
    generalize hfr : ((⟨(s.map fun b => Value.int .u8 b.toNat) ++ more⟩ : Array Value).size, (⟨(s.map fun b => Value.int .u8 b.toNat) ++ more⟩ : Array Value).size + 1) = fr at hrun
    have h' := h.drewN 1
    have le : Le (Γ.drewN 1) (((Γ.drewN 1).alloc (.cells ⟨(s.map fun b => Value.int .u8 b.toNat) ++ more⟩ e fr)).know ((Γ.drewN 1).w.heap.size, 0)) := (Le.alloc h'.fz _).trans (Le.know _ _)
    have hN := h'.new (.cells ⟨(s.map fun b => Value.int .u8 b.toNat) ++ more⟩ e fr) (.row e (s.map byteA)) (by
      simp only [BRel]
      refine ⟨⟨_, fr, alloc_new _ _, by rw [← hfr]; exact Nat.le_succ _, fun o ho => by rw [← hfr]; simp at ho ⊢; omega⟩, CellsAt.of fun i a ha => ?_⟩
      have hlt : i < s.length := by have := (List.getElem?_eq_some_iff.1 ha).1; simpa using this
      have hg := (bytes_rel (Γ := Γ.drewN 1) s).get i
      have hlt2 : i < (s.map fun b => Value.int .u8 b.toNat).length := by simpa using hlt
      simp only [List.getD, ha, List.getElem?_eq_getElem hlt2, Option.getD_some] at hg
      refine ⟨_, ?_, ?_, hg.le le⟩
      · simp only [World.cell?, Cx.know, Cx.alloc, alloc_new]
        simp [List.getElem?_append, hlt]
      · simp [one])
    refine ⟨_, _, hrun, ?_, hN.1, (Ev.drewN Γ hp 1).trans hN.2⟩
    simp only [VRel]
    refine ⟨by have := h.len; simp [Cx.know, Cx.alloc, Cx.drewN]; omega, 0, c, e, ((s.map fun b => Value.int .u8 b.toNat) ++ more).length, ?_, .inr ?_, Nat.le_refl _, hge, by simp, ?_, ?_⟩
    · simp [Cx.know, Cx.alloc, Cx.drewN, h.len]
    · simp [Cx.know, Cx.alloc, Cx.drewN, h.len]
    · have hk : (((Γ.drewN 1).alloc (.cells ⟨(s.map fun b => Value.int .u8 b.toNat) ++ more⟩ e fr)).know ((Γ.drewN 1).w.heap.size, 0)).β hp.length = ((Γ.drewN 1).w.heap.size, 0) := by simp [Cx.know, Cx.alloc, Cx.drewN, h.len]
      rw [hk]
      simp only [World.shape?, Cx.know, Cx.alloc, alloc_new]
      simp
    · rw [← hmore]; simp; omega
  · cases hr

theorem unbyte_run {Γ : Cx} : ∀ {as : List AV} {s : List UInt8} {vs : List Value}, unbyte as = some s → VRels Γ as vs → vs = s.map fun b => Value.int .u8 b.toNat
  | [], s, vs, h, hv => by simp only [unbyte, Option.some.injEq] at h; subst h; simpa [VRels] using hv
  | a :: as, s, vs, h, hv => by
    cases a with
    | int k n =>
      cases k <;> simp only [unbyte, reduceCtorEq] at h
      split at h
      · rename_i hn
        cases hu : unbyte as with
        | none => simp [hu] at h
        | some s' =>
          simp only [hu, Option.map_some, Option.some.injEq] at h
          subst h
          simp only [VRels] at hv
          obtain ⟨v, vs', rfl, hv, hvs⟩ := hv
          simp only [VRel] at hv
          subst hv
          rw [unbyte_run hu hvs]
          simp only [List.map_cons, List.cons.injEq, Value.int.injEq, true_and, and_true]
          have : n.toNat % 256 = n.toNat := Nat.mod_eq_of_lt (by omega)
          simp [this]; omega
      · cases h
    | _ => simp [unbyte] at h

theorem b2s_ok {P : Program} {Γ : Cx} {hp : HP} (h : HSim Γ hp) {src dst e : TypeId} (hs : P.underlying src = some (.slice e)) (hd : P.underlying dst = some .string) (he : P.underlying e = some (.int .u8)) {x r : AV} {v : Value} (hv : VRel Γ x v)
    (hr : b2sA hp x = some r) : OpOk P Γ hp (convert src dst v) r hp := by
  unfold b2sA at hr
  split at hr
  · rename_i as n hsrc
    have hr' : (∀ s, x ≠ .str s) ∧ (unbyte as).map AV.str = some r := by
      cases x <;> first | exact ⟨by simp, hr⟩ | simp at hr
    obtain ⟨hns, hr'⟩ := hr'
    cases hu : unbyte as with
    | none => simp [hu] at hr'
    | some s =>
      simp only [hu, Option.map_some, Option.some.injEq] at hr'
      subst hr'
      obtain ⟨news, hS, hN, hO⟩ := srcA_src (P := P) h (.inl ⟨e, hs⟩) hv hsrc
      have hnews := unbyte_run hu hN
      refine OpOk.same h (v := .string ⟨s.toArray⟩) ?_ (by simp [VRel])
      have some_ : ∀ (a : Addr) (c : Nat), v = .slice (some a) n c → (convert src dst v).run P Γ.w = .ok (.string ⟨s.toArray⟩) Γ.w := by
        rintro a c rfl
        rw [run_convert_bytes_string Γ.w src dst e (some a) n c hs he hd]
        have hc := hS.cells
        simp only [Builtin.firstCells, Nat.mul_one] at hc
        have hmap : (s.map fun b => Value.int .u8 b.toNat) = (s.map (fun b => (b.toNat : Int))).map (Value.int .u8) := by simp
        rw [hnews, hmap] at hc
        rw [run_bytesToString Γ.w a n c _ hc, foldl_push_byteCells]
        have he0 : ByteArray.empty.data = #[] := rfl
        rw [he0]
        simp
      cases x <;> simp only [srcA] at hsrc <;> try contradiction
      case nils =>
        simp only [Option.some.injEq, Prod.mk.injEq] at hsrc
        obtain ⟨rfl, rfl⟩ := hsrc
        simp only [unbyte, Option.some.injEq] at hu
        subst hu
        simp only [VRel] at hv
        subst hv
        rw [run_convert_bytes_string Γ.w src dst e none 0 0 hs he hd]
        rfl
      case fsl cs len =>
        split at hsrc
        · simp only [Option.some.injEq, Prod.mk.injEq] at hsrc
          obtain ⟨rfl, rfl⟩ := hsrc
          simp only [VRel] at hv
          rcases hv with ⟨hv | ⟨a0, hv⟩, rfl, rfl⟩ | ⟨b, o, c, hv, _⟩
          · simp only [unbyte, Option.some.injEq] at hu
            subst hu
            subst hv
            rw [run_convert_bytes_string Γ.w src dst e none 0 0 hs he hd]
            rfl
          · exact some_ _ 0 hv
          · exact some_ _ c hv
        · cases hsrc
      case enn =>
        simp only [Option.some.injEq, Prod.mk.injEq] at hsrc
        obtain ⟨rfl, rfl⟩ := hsrc
        simp only [VRel] at hv
        obtain ⟨a0, c, hv, _⟩ := hv
        exact some_ _ c hv
      case esl =>
        simp only [Option.some.injEq, Prod.mk.injEq] at hsrc
        obtain ⟨rfl, rfl⟩ := hsrc
        simp only [VRel] at hv
        rcases hv with hv | ⟨a0, hv⟩
        · simp only [unbyte, Option.some.injEq] at hu
          subst hu
          subst hv
          rw [run_convert_bytes_string Γ.w src dst e none 0 0 hs he hd]
          rfl
        · exact some_ _ 0 hv
      case sl id off len sz' lo ex =>
        split at hsrc
        · split at hsrc
          · simp only [Option.some.injEq, Prod.mk.injEq] at hsrc
            obtain ⟨rfl, rfl⟩ := hsrc
            simp only [VRel] at hv
            obtain ⟨_, o, c, _, _, hv, _⟩ := hv
            exact some_ _ c hv
          · cases hsrc
        · cases hsrc
  · cases hr

/-! ### len, clear, copy -/
def lenA (hp : HP) : AV → Option AV
  | .str s => some (.int .i64 s.length)
  | .nils => some (.int .i64 0)
  | .sl _ _ len _ _ _ => some (.int .i64 len)
  | .fsl _ len => some (.int .i64 len)
  | .esl => some (.int .i64 0)
  | .enn => some (.int .i64 0)
  | .nilm => some (.int .i64 0)
  | .map id => match hp[id]? with
    | some (some (.map es _ _)) => some (.int .i64 es.length)
    | _ => none
  | _ => none

/-- What the type's values are: a string, a slice, a map. -/
inductive LenK where
  | str | slice | map
  deriving DecidableEq
def lenP (P : Program) (t : TypeId) : Option LenK :=
  match P.underlying t with
  | some .string => some .str
  | some (.slice _) => some .slice
  | some (.map _ _) => some .map
  | _ => none
def lenFits : LenK → AV → Bool
  | .str, .str _ => true
  | .slice, .nils | .slice, .sl .. | .slice, .fsl .. | .slice, .esl | .slice, .enn => true
  | .map, .nilm | .map, .map _ => true
  | _, _ => false

theorem len_ok {P : Program} {Γ : Cx} {hp : HP} (h : HSim Γ hp) {t ty : TypeId} {k : LenK} (ht : lenP P t = some k) {x r : AV} {v : Value} (hv : VRel Γ x v) (hf : lenFits k x = true) (hr : lenA hp x = some r) : OpOk P Γ hp (Builtin.len_ #[t] ty #[v]) r hp := by
  unfold lenP at ht
  have hu : (k = .str ∧ P.underlying t = some .string) ∨ (k = .slice ∧ ∃ e, P.underlying t = some (.slice e)) ∨ (k = .map ∧ ∃ a b, P.underlying t = some (.map a b)) := by
    split at ht <;> simp only [Option.some.injEq, reduceCtorEq] at ht <;> subst ht
    · rename_i h; exact .inl ⟨rfl, h⟩
    · rename_i e h; exact .inr (.inl ⟨rfl, e, h⟩)
    · rename_i a b h; exact .inr (.inr ⟨rfl, a, b, h⟩)
  cases x <;> simp only [lenA, reduceCtorEq] at hr
  case str s =>
    simp only [Option.some.injEq] at hr; subst hr
    rcases hu with ⟨rfl, hu⟩ | ⟨rfl, e, hu⟩ | ⟨rfl, a, b, hu⟩ <;> simp [lenFits] at hf
    simp only [VRel] at hv; subst hv
    have hn : (⟨s.toArray⟩ : ByteArray).size = s.length := by simp [ByteArray.size]
    exact OpOk.same h (v := .int .i64 s.length) (by simp [Builtin.len_, run_underlying hu, goInt, hn]) (by simp [VRel])
  case nils =>
    simp only [Option.some.injEq] at hr; subst hr
    rcases hu with ⟨rfl, hu⟩ | ⟨rfl, e, hu⟩ | ⟨rfl, a, b, hu⟩ <;> simp [lenFits] at hf
    simp only [VRel] at hv; subst hv
    exact OpOk.same h (by simp [Builtin.len_, run_underlying hu, goInt]; rfl) (by simp [VRel])
  case sl id off len sz lo ex =>
    simp only [Option.some.injEq] at hr; subst hr
    rcases hu with ⟨rfl, hu⟩ | ⟨rfl, e, hu⟩ | ⟨rfl, a, b, hu⟩ <;> simp [lenFits] at hf
    simp only [VRel] at hv; obtain ⟨_, _, _, _, _, rfl, _⟩ := hv
    exact OpOk.same h (by simp [Builtin.len_, run_underlying hu, goInt]; rfl) (by simp [VRel])
  case fsl cs len =>
    simp only [Option.some.injEq] at hr; subst hr
    rcases hu with ⟨rfl, hu⟩ | ⟨rfl, e, hu⟩ | ⟨rfl, a, b, hu⟩ <;> simp [lenFits] at hf
    simp only [VRel] at hv
    rcases hv with ⟨rfl | ⟨_, rfl⟩, rfl, _⟩ | ⟨_, _, _, rfl, _⟩
    · exact OpOk.same h (by simp [Builtin.len_, run_underlying hu, goInt]; rfl) (by simp [VRel])
    · exact OpOk.same h (by simp [Builtin.len_, run_underlying hu, goInt]; rfl) (by simp [VRel])
    · exact OpOk.same h (by simp [Builtin.len_, run_underlying hu, goInt]; rfl) (by simp [VRel])
  case enn =>
    simp only [Option.some.injEq] at hr; subst hr
    rcases hu with ⟨rfl, hu⟩ | ⟨rfl, e, hu⟩ | ⟨rfl, a, b, hu⟩ <;> simp [lenFits] at hf
    simp only [VRel] at hv
    obtain ⟨_, _, rfl, _⟩ := hv
    exact OpOk.same h (by simp [Builtin.len_, run_underlying hu, goInt]; rfl) (by simp [VRel])
  case esl =>
    simp only [Option.some.injEq] at hr; subst hr
    rcases hu with ⟨rfl, hu⟩ | ⟨rfl, e, hu⟩ | ⟨rfl, a, b, hu⟩ <;> simp [lenFits] at hf
    simp only [VRel] at hv
    rcases hv with rfl | ⟨_, rfl⟩
    · exact OpOk.same h (by simp [Builtin.len_, run_underlying hu, goInt]; rfl) (by simp [VRel])
    · exact OpOk.same h (by simp [Builtin.len_, run_underlying hu, goInt]; rfl) (by simp [VRel])
  case nilm =>
    simp only [Option.some.injEq] at hr; subst hr
    rcases hu with ⟨rfl, hu⟩ | ⟨rfl, e, hu⟩ | ⟨rfl, a, b, hu⟩ <;> simp [lenFits] at hf
    simp only [VRel] at hv; subst hv
    exact OpOk.same h (by simp [Builtin.len_, run_underlying hu, goInt]; rfl) (by simp [VRel])
  case map id =>
    split at hr
    · rename_i es _ _ hx
      simp only [Option.some.injEq] at hr; subst hr
      rcases hu with ⟨rfl, hu⟩ | ⟨rfl, e, hu⟩ | ⟨rfl, a, b, hu⟩ <;> simp [lenFits] at hf
      simp only [VRel] at hv; obtain ⟨_, rfl⟩ := hv
      have hb := (h.blk id _ hx).1
      simp only [BRel] at hb
      obtain ⟨ms, clock, h1, _, _, h4, _⟩ := hb
      have hl := h4.length
      simp at hl
      refine OpOk.same h (v := .int .i64 ms.size) ?_ (by simp [VRel, hl])
      simp [Builtin.len_, run_underlying hu, goInt, getObj, Sem.run, h1]
    · cases hr

def clearA (hp : HP) (Z : List AV) (x : AV) : Option HP :=
  match x with
  | .nils => some hp
  | .sl id off len sz _ _ =>
    if len = 0 then some hp else
    match hp[id]? with
    | some (some (.row e cs)) => if sz = Z.length ∧ off + len * sz ≤ cs.length then some (hp.set id (some (.row e (over cs off (zerosA Z len))))) else none
    | _ => none
  | .fsl _ len => if len = 0 then some hp else none
  | .esl => some hp
  | _ => none

theorem clear_ok {P : Program} {Γ : Cx} {hp hp' : HP} (h : HSim Γ hp) {t ty e : TypeId} {sz bytes : Nat} (ht : elemP P t = some (e, sz, bytes)) {Z : List AV} (hz : zeroP P e = some Z) {x : AV} {v : Value} (hv : VRel Γ x v) (hr : clearA hp Z x = some hp') :
    OpOk P Γ hp (Builtin.clear_ #[t] ty #[v]) (.tup []) hp' := by
  obtain ⟨hut, i, z, hi, hzz, hzs, rfl, rfl⟩ := elemP_some ht
  obtain ⟨i', z', hi', hz', hs', hZl, key⟩ := zeroP_some hz
  rw [hi] at hi'; cases hi'
  rw [hzz] at hz'; cases hz'
  unfold clearA at hr
  split at hr
  · simp only [Option.some.injEq] at hr; subst hr
    simp only [VRel] at hv; subst hv
    exact OpOk.same h (v := .tuple #[]) (by simp [Builtin.clear_, run_underlying hut]) (by simp [VRel, VRels])
  · rename_i id off len sz lo ex
    split at hr
    · rename_i h0
      subst h0
      simp only [Option.some.injEq] at hr; subst hr
      simp only [VRel] at hv; obtain ⟨_, o, c, _, _, rfl, _⟩ := hv
      exact OpOk.same h (v := .tuple #[]) (by simp [Builtin.clear_, run_underlying hut]) (by simp [VRel, VRels])
    · rename_i h0
      split at hr
      · rename_i e' cs hx
        split at hr
        · rename_i hl
          obtain ⟨rfl, hl⟩ := hl
          simp only [Option.some.injEq] at hr; subst hr
          simp only [VRel] at hv
          obtain ⟨hid, o, c, e2, m, rfl, ho, k1, k2, k3, k4, k5⟩ := hv
          have ho' : o = (Γ.β id).2 + off := by rcases ho with ho | ho
                                                · omega
                                                · exact ho
          obtain ⟨q1, q2⟩ := zeros_rel (key Γ).1 (key Γ).2 len
          have hZ : (zerosA Z len).length = len * Z.length := by rw [zerosA_eq]; simp
          obtain ⟨Δ, r1, r2, r3, _⟩ := write_row (P := P) (off := off) h hx q1 q2 (by omega) (.inl (by omega))
          refine ⟨.tuple #[], Δ, ?_, by simp [VRel, VRels], r2, r3⟩
          have hzc : (Builtin.zeroCells z.cells len).toList = (List.replicate len z.cells.toList).flatten := cycle_list z.cells len
          obtain ⟨n, rfl⟩ : ∃ n, len = n + 1 := ⟨len - 1, by omega⟩
          simp only [Builtin.clear_, List.getElem?_toArray, List.getElem?_cons_zero, ho', zeroValue, typeInfo, Sem.run_bind, run_underlying hut, Result.andThen_ok, run_program, hi, Sem.run_pure, hzz, hzc, r1]
        · cases hr
      · cases hr
  · rename_i cs len
    split at hr
    · rename_i h0
      subst h0
      simp only [Option.some.injEq] at hr; subst hr
      simp only [VRel] at hv
      rcases hv with ⟨rfl | ⟨_, rfl⟩, _⟩ | ⟨_, o, c, rfl, _⟩
      · exact OpOk.same h (v := .tuple #[]) (by simp [Builtin.clear_, run_underlying hut]) (by simp [VRel, VRels])
      · exact OpOk.same h (v := .tuple #[]) (by simp [Builtin.clear_, run_underlying hut]) (by simp [VRel, VRels])
      · exact OpOk.same h (v := .tuple #[]) (by simp [Builtin.clear_, run_underlying hut]) (by simp [VRel, VRels])
    · cases hr
  · simp only [Option.some.injEq] at hr; subst hr
    simp only [VRel] at hv
    rcases hv with rfl | ⟨_, rfl⟩
    · exact OpOk.same h (v := .tuple #[]) (by simp [Builtin.clear_, run_underlying hut]) (by simp [VRel, VRels])
    · exact OpOk.same h (v := .tuple #[]) (by simp [Builtin.clear_, run_underlying hut]) (by simp [VRel, VRels])
  · cases hr

end Go.Gi
