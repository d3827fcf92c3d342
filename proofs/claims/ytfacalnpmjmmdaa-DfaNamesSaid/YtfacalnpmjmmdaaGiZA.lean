/- Maps by strings and by numbers. -/
import Derived.Test.YtfacalnpmjmmdaaGiZ
import Derived.MapKept
set_option linter.unusedVariables false
set_option linter.unusedSimpArgs false
namespace Go.Gi
open Go

def kEq : IntKind → IntKind → Bool
  | .i64, .i64 => true
  | .u8, .u8 => true
  | a, b => decide (a = b)
theorem kEq_eq {a b : IntKind} (h : kEq a b = true) : a = b := by
  unfold kEq at h
  split at h
  · rfl
  · rfl
  · exact of_decide_eq_true h
theorem kEq_ne {a b : IntKind} (h : kEq a b = false) : a ≠ b := by
  unfold kEq at h
  split at h
  · cases h
  · cases h
  · exact of_decide_eq_false h
def bEqb : List UInt8 → List UInt8 → Bool
  | [], [] => true
  | a :: as, b :: bs => cond (Nat.beq a.toNat b.toNat) (bEqb as bs) false
  | _, _ => false
theorem bEqb_eq : ∀ (a b : List UInt8), bEqb a b = decide (a = b)
  | [], [] => by simp [bEqb]
  | [], _ :: _ => by simp [bEqb]
  | _ :: _, [] => by simp [bEqb]
  | a :: as, b :: bs => by
    simp only [bEqb]
    cases hb : Nat.beq a.toNat b.toNat
    · have : a ≠ b := fun h => by subst h; rw [Nat.beq_refl] at hb; cases hb
      simp [this]
    · have : a = b := UInt8.toNat_inj.1 (Nat.eq_of_beq_eq_true hb)
      subst this
      rw [cond_true, bEqb_eq as bs]
      simp

/-- What a map's keys are. -/
inductive KK where
  | str | int
def KK.of (P : Program) (t : TypeId) : Option KK :=
  match P.underlying t with
  | some .string => some .str
  | some (.int _) => some .int
  | _ => none
/-- A map's type: its keys, and its values' type. -/
def mapP (P : Program) (t : TypeId) : Option (KK × TypeId × TypeId) :=
  match P.underlying t with
  | some (.map k e) => match KK.of P k with
    | some kk => some (kk, k, e)
    | none => none
  | _ => none
theorem mapP_some {P : Program} {t k e : TypeId} {kk : KK} (h : mapP P t = some (kk, k, e)) : P.underlying t = some (.map k e) ∧ KK.of P k = some kk := by
  unfold mapP at h
  split at h
  · rename_i k' e' hu
    split at h
    · rename_i kk' hk
      simp only [Option.some.injEq, Prod.mk.injEq] at h
      obtain ⟨rfl, rfl, rfl⟩ := h
      exact ⟨hu, hk⟩
    · cases h
  · cases h

def keyA : KK → AV → Bool
  | .str, .str _ => true
  | .int, .int _ _ => true
  | _, _ => false
def keyEqA : AV → AV → Option Bool
  | .str a, .str b => some (bEqb a b)
  | .int k a, .int k' b => cond (kEq k k') (some (decide (a = b))) none
  | _, _ => none
def findA (k : AV) : List (AV × AV) → Nat → Option (Option (Nat × AV))
  | [], _ => some none
  | (k', v) :: es, i => match keyEqA k k' with
    | some true => some (some (i, v))
    | some false => findA k es (i + 1)
    | none => none

theorem keyEqA_rel {P : Program} {Γ : Cx} {kk : KK} {t : TypeId} (ht : KK.of P t = some kk) {a b : AV} (ha : keyA kk a = true) {u v : Value} (hu : VRel Γ a u) (hv : VRel Γ b v) {r : Bool} (h : keyEqA a b = some r) :
    ∃ d, P.underlying t = some d ∧ Instr.sameNow d u v = some r ∧ (r = true → v = u ∧ Instr.sameBits 10000 v u = true) := by
  unfold KK.of at ht
  split at ht
  · rename_i hd
    cases ht
    cases a <;> cases b <;> simp only [keyA, keyEqA, reduceCtorEq, Option.some.injEq, Bool.false_eq_true] at ha h
    simp only [VRel] at hu hv
    subst hu; subst hv
    rw [bEqb_eq] at h
    refine ⟨_, hd, ?_, fun hr => ?_⟩
    · simp only [Instr.sameNow, Option.some.injEq]
      rw [← h]
      rename_i s s'
      by_cases e : s = s'
      · subst e; simp [MapKept.bytes_beq]
      · simp only [e, decide_false]
        refine Bool.eq_false_iff.2 fun hb => e ?_
        have := (MapKept.bytes_beq _ _).1 hb
        simpa using this
    · subst hr
      have := of_decide_eq_true h
      subst this
      exact ⟨rfl, by simp [Instr.sameBits, MapKept.bytes_beq]⟩
  · rename_i k0 hd
    cases ht
    cases a <;> cases b <;> simp only [keyA, keyEqA, reduceCtorEq, Option.some.injEq, Bool.false_eq_true] at ha h
    rename_i k n k' n'
    simp only [VRel] at hu hv
    subst hu; subst hv
    cases hk : kEq k k' <;> rw [hk] at h
    · cases h
    · have := kEq_eq hk
      subst this
      simp only [cond_true, Option.some.injEq] at h
      refine ⟨_, hd, ?_, fun hr => ?_⟩
      · simp only [Instr.sameNow, if_true, Option.some.injEq]
        rw [← h]
        by_cases e : n = n'
        · subst e; simp
        · simp [e]
      · subst hr
        have := of_decide_eq_true h
        subst this
        exact ⟨rfl, by simp [Instr.sameBits]⟩
  · cases ht

theorem findA_rel {P : Program} {Γ : Cx} {kk : KK} {t : TypeId} {d : TypeDesc} (ht : KK.of P t = some kk) (hd : P.underlying t = some d) {a : AV} (ha : keyA kk a = true) {u : Value} (hu : VRel Γ a u) : ∀ {es : List (AV × AV)} {ms : List MapEntry} {i : Nat} {r : Option (Nat × AV)}, VRels Γ (es.map (·.1)) (ms.map (·.key)) → VRels Γ (es.map (·.2)) (ms.map (·.val)) → findA a es i = some r →
    (r = none ∧ Instr.findNow d u ms i = some none) ∨ ∃ j x m, r = some (i + j, x) ∧ ms[j]? = some m ∧ Instr.findNow d u ms i = some (some (i + j, m.val)) ∧ VRel Γ x m.val ∧ m.key = u ∧ Instr.sameBits 10000 m.key u = true ∧ j < es.length
  | [], ms, i, r, h1, h2, h => by
    simp only [findA, Option.some.injEq] at h
    subst h
    have : ms = [] := by
      have := h1.length
      simp at this
      exact List.eq_nil_of_length_eq_zero this.symm
    subst this
    exact .inl ⟨rfl, rfl⟩
  | (k', v) :: es, ms, i, r, h1, h2, h => by
    cases ms with
    | nil => have := h1.length; simp at this
    | cons m ms =>
      simp only [List.map_cons, VRels, List.cons.injEq] at h1 h2
      obtain ⟨_, _, ⟨rfl, rfl⟩, k1, k2⟩ := h1
      obtain ⟨_, _, ⟨rfl, rfl⟩, k3, k4⟩ := h2
      simp only [findA] at h
      split at h
      · rename_i hk
        simp only [Option.some.injEq] at h
        subst h
        obtain ⟨d', hd', hs, hr⟩ := keyEqA_rel ht ha hu k1 hk
        rw [hd] at hd'
        cases hd'
        refine .inr ⟨0, v, m, rfl, rfl, ?_, k3, (hr rfl).1, (hr rfl).2, by simp⟩
        simp [Instr.findNow, hs]
      · rename_i hk
        obtain ⟨d', hd', hs, -⟩ := keyEqA_rel ht ha hu k1 hk
        rw [hd] at hd'
        cases hd'
        rcases findA_rel ht hd ha hu k2 k4 h with ⟨rfl, q⟩ | ⟨j, x, m', rfl, q1, q2, q3, q4, q5, q6⟩
        · exact .inl ⟨rfl, by simp [Instr.findNow, hs, q]⟩
        · refine .inr ⟨j + 1, x, m', by rw [show i + 1 + j = i + (j + 1) by omega], by simpa using q1, ?_, q3, q4, q5, by simp; omega⟩
          simp only [Instr.findNow, hs, q2]
          rw [show i + 1 + j = i + (j + 1) by omega]
      · cases h

/-- A type's zero value. -/
def zvP (P : Program) (e : TypeId) : Option AV :=
  match P.info? e with
  | some i => match i.zero with
    | some z => constA z
    | none => none
  | none => none
theorem zvP_run {P : Program} {e : TypeId} {z : AV} (h : zvP P e = some z) (Γ : Cx) : ∃ v, (zeroValue e).run P Γ.w = .ok v Γ.w ∧ VRel Γ z v := by
  unfold zvP at h
  split at h
  · rename_i i hi
    split at h
    · rename_i v hv
      exact ⟨v, by simp [zeroValue, typeInfo, hi, hv], constA_rel h⟩
    · cases h
  · cases h

def mkmapA (hp : HP) : AV × HP := (.map hp.length, hp ++ [some (.map [])])
theorem mkmap_ok {P : Program} {Γ : Cx} {hp : HP} (h : HSim Γ hp) {t : TypeId} : OpOk P Γ hp (Instr.makeMap t none) (mkmapA hp).1 (mkmapA hp).2 := by
  have hs := h.new (.map #[] 0) (.map []) (by
    simp only [BRel]
    exact ⟨#[], 0, alloc_new _ _, by simp, by simp, by simp [VRels], by simp [VRels]⟩)
  refine ⟨.map (some Γ.w.heap.size), _, ?_, ?_, hs.1, hs.2⟩
  · simp only [Instr.makeMap, Sem.run_bind, run_newObj, Result.andThen_ok, Sem.run_pure]
    rfl
  · simp only [mkmapA, VRel]
    simp [Cx.know, Cx.alloc, h.len]
theorem mkmapR_ok {P : Program} {Γ : Cx} {hp : HP} (h : HSim Γ hp) {t a b : TypeId} (ht : P.underlying t = some (.map a b)) {k : IntKind} {n : Int} : OpOk P Γ hp (Instr.makeMap t (some (.int k n))) (mkmapA hp).1 (mkmapA hp).2 := by
  obtain ⟨v, Δ, h1, h2⟩ := mkmap_ok (P := P) (t := t) h
  refine ⟨v, Δ, ?_, h2⟩
  rw [← h1]
  simp [Instr.makeMap, run_underlying ht, asInt, asIntOf]

def rowsA (hp : HP) : AV → Option (List (AV × AV))
  | .nilm => some []
  | .map id => match hp[id]? with
    | some (some (.map es)) => some es
    | _ => none
  | _ => none
def lookA (hp : HP) (kk : KK) (z : AV) (ok : Bool) (m k : AV) : Option AV :=
  cond (keyA kk k) (match rowsA hp m with
    | some es => match findA k es 0 with
      | some (some (_, v)) => some (cond ok (.tup [v, .bool true]) v)
      | some none => some (cond ok (.tup [z, .bool false]) z)
      | none => none
    | none => none) none

theorem checkKey_run {P : Program} {kk : KK} {t : TypeId} (ht : KK.of P t = some kk) (b : Bool) (u : Value) (w : World) : (Instr.checkKey b 10000 t u).run P w = .ok () w := by
  unfold KK.of at ht
  split at ht <;> first | cases ht | skip
  all_goals
    rename_i hd
    unfold Instr.checkKey
    simp [run_underlying hd]

theorem look_ok {P : Program} {Γ : Cx} {hp : HP} (h : HSim Γ hp) {t kt e : TypeId} {kk : KK} (ht : mapP P t = some (kk, kt, e)) {z : AV} (hz : zvP P e = some z) {ok : Bool} {m k r : AV} {mv kv : Value} (hm : VRel Γ m mv) (hk : VRel Γ k kv) (hr : lookA hp kk z ok m k = some r) :
    OpOk P Γ hp (Instr.lookup t mv kv ok) r hp := by
  obtain ⟨hu, hkk⟩ := mapP_some ht
  unfold lookA at hr
  cases hka : keyA kk k <;> rw [hka] at hr
  · cases hr
  simp only [cond_true] at hr
  obtain ⟨d, hd⟩ : ∃ d, P.underlying kt = some d := by
    unfold KK.of at hkk
    split at hkk
    · exact ⟨_, by assumption⟩
    · exact ⟨_, by assumption⟩
    · cases hkk
  split at hr
  · rename_i es hes
    obtain ⟨ms, hmv, h1, h2⟩ : ∃ ms : Array MapEntry, ((mv = .map none ∧ ms = #[]) ∨ ∃ b c, mv = .map (some b) ∧ Γ.w.heap[b]? = some (.map ms c)) ∧ VRels Γ (es.map (·.1)) (ms.toList.map (·.key)) ∧ VRels Γ (es.map (·.2)) (ms.toList.map (·.val)) := by
      cases m <;> simp only [rowsA, reduceCtorEq, Option.some.injEq] at hes
      case nilm =>
        subst hes
        simp only [VRel] at hm
        exact ⟨#[], .inl ⟨hm, rfl⟩, by simp [VRels], by simp [VRels]⟩
      case map id =>
        split at hes
        · rename_i es' hx
          cases hes
          simp only [VRel] at hm
          obtain ⟨⟨ms, clock, q1, _, _, q2, q3⟩, _, _⟩ := h.blk _ _ hx
          exact ⟨ms, .inr ⟨_, _, hm.2, q1⟩, q2, q3⟩
        · cases hes
    obtain ⟨zv, hz1, hz2⟩ := zvP_run hz Γ
    split at hr
    · rename_i j v hf
      cases hr
      rcases findA_rel hkk hd hka hk h1 h2 hf with ⟨q, _⟩ | ⟨j', x, m', q1, q2, q3, q4, q5, q6, q7⟩
      · cases q
      · cases q1
        refine OpOk.same h (v := if ok then .tuple #[m'.val, .bool true] else m'.val) ?_ ?_
        · simp only [Nat.zero_add] at q3
          rcases hmv with ⟨rfl, rfl⟩ | ⟨b, c, rfl, hb⟩
          · simp at q2
          · cases ok <;> simp [Instr.lookup, run_underlying hu, MapKept.run_getObj_map hb, checkKey_run hkk, Instr.findKey, run_underlying hd, q3]
        · cases ok
          · exact q4
          · simp only [cond_true, if_true, VRel, VRels]
            exact ⟨_, rfl, _, _, rfl, q4, _, _, rfl, rfl, rfl⟩
    · rename_i hf
      cases hr
      rcases findA_rel hkk hd hka hk h1 h2 hf with ⟨_, q⟩ | ⟨j', x, m', q1, _⟩
      · refine OpOk.same h (v := if ok then .tuple #[zv, .bool false] else zv) ?_ ?_
        · rcases hmv with ⟨rfl, rfl⟩ | ⟨b, c, rfl, hb⟩
          · cases ok <;> simp [Instr.lookup, run_underlying hu, checkKey_run hkk, Instr.findKey, run_underlying hd, Instr.findNow, hz1]
          · cases ok <;> simp [Instr.lookup, run_underlying hu, MapKept.run_getObj_map hb, checkKey_run hkk, Instr.findKey, run_underlying hd, q, hz1]
        · cases ok
          · exact hz2
          · simp only [cond_true, if_true, VRel, VRels]
            exact ⟨_, rfl, _, _, rfl, hz2, _, _, rfl, rfl, rfl⟩
      · cases q1
    · cases hr
  · cases hr

def mapupA (hp : HP) (kk : KK) (m k v : AV) : Option HP :=
  cond (keyA kk k) (match m with
    | .map id => match hp[id]? with
      | some (some (.map es)) => match findA k es 0 with
        | some (some (j, _)) => some (hp.set id (some (.map (es.set j (k, v)))))
        | some none => some (hp.set id (some (.map (es ++ [(k, v)]))))
        | none => none
      | _ => none
    | _ => none) none

theorem modify_map {α β : Type} (f : α → β) (g : α → α) (b : β) (j : Nat) : ∀ (l : List α) (a : α), l[j]? = some a → f (g a) = b → (l.modify j g).map f = (l.map f).set j b := by
  intro l a ha hb
  apply List.ext_getElem?
  intro i
  rw [List.getElem?_map, List.getElem?_modify, List.getElem?_set, List.getElem?_map]
  by_cases e : j = i
  · subst e
    have hlt := (List.getElem?_eq_some_iff.1 ha).1
    rw [ha]
    simp [hb, hlt]
  · simp [e]

theorem mapup_ok {P : Program} {Γ : Cx} {hp hp' : HP} (h : HSim Γ hp) {t kt e : TypeId} {kk : KK} (ht : mapP P t = some (kk, kt, e)) {m k v : AV} {mv kv vv : Value} (hm : VRel Γ m mv) (hk : VRel Γ k kv) (hv : VRel Γ v vv) (hr : mapupA hp kk m k v = some hp') :
    OpDone P Γ hp (Instr.mapUpdate t mv kv vv) hp' := by
  obtain ⟨hu, hkk⟩ := mapP_some ht
  unfold mapupA at hr
  cases hka : keyA kk k <;> rw [hka] at hr
  · cases hr
  simp only [cond_true] at hr
  obtain ⟨d, hd⟩ : ∃ d, P.underlying kt = some d := by
    unfold KK.of at hkk
    split at hkk
    · exact ⟨_, by assumption⟩
    · exact ⟨_, by assumption⟩
    · cases hkk
  split at hr
  · rename_i id
    simp only [VRel] at hm
    obtain ⟨hid, rfl⟩ := hm
    split at hr
    · rename_i es hx
      obtain ⟨⟨ms, clock, q1, q2, q3, q4, q5⟩, hnf, hlt⟩ := h.blk _ _ hx
      have wr : ∀ (o : Obj) (x' : Blk), (∃ a b, o = .map a b) → BRel (Γ.setB (Γ.β id).1 o) (Γ.β id) x' → OpDone P Γ hp (setObj (Γ.β id).1 o) (hp.set id (some x')) := by
        rintro o x' ⟨a, b, rfl⟩ hb
        obtain ⟨r1, r2⟩ := h.write hx (.map a b) x' (by
          intro s hs
          simp [World.shape?, q1] at hs) hb
        exact ⟨_, MapKept.run_setObj_map _ q1, r1, r2⟩
      have le : ∀ (o : Obj), Le Γ (Γ.setB (Γ.β id).1 o) := fun o => Le.setB hnf (by intro s hs; simp [World.shape?, q1] at hs)
      split at hr
      · rename_i j x hf
        cases hr
        rcases findA_rel hkk hd hka hk q4 q5 hf with ⟨q, _⟩ | ⟨j', x', m', p1, p2, p3, p4, p5, p6, p7⟩
        · cases q
        · simp only [Nat.zero_add, Option.some.injEq, Prod.mk.injEq] at p1
          obtain ⟨rfl, rfl⟩ := p1
          rw [Nat.zero_add] at p3
          obtain ⟨Δ, w1, w2⟩ := wr (.map (ms.modify j fun e => { e with key := kv, val := vv }) clock) (.map (es.set j (k, v))) ⟨_, _, rfl⟩ (by
            simp only [BRel]
            refine ⟨_, clock, setB_eq _ _ hlt, ?_, ?_, ?_, ?_⟩
            · have : ((ms.modify j fun e => { e with key := kv, val := vv }).toList.map (·.born)) = ms.toList.map (·.born) := by
                rw [Array.toList_modify, modify_map (·.born) _ m'.born j _ m' p2 rfl]
                apply List.ext_getElem?
                intro i
                rw [List.getElem?_set]
                split
                · rename_i e'
                  subst e'
                  have := (List.getElem?_eq_some_iff.1 p2).1
                  rw [List.getElem?_map, p2]
                  simp only [List.length_map, this, if_true, Option.map_some]
                · rfl
              rw [this]; exact q2
            · intro m hm
              rw [Array.toList_modify] at hm
              obtain ⟨i, hi⟩ := List.getElem?_of_mem hm
              rw [List.getElem?_modify] at hi
              cases hmi : ms.toList[i]? with
              | none => rw [hmi] at hi; cases hi
              | some m0 =>
                rw [hmi] at hi
                simp only [Option.map_eq_map, Option.map_some, Option.some.injEq] at hi
                have := q3 m0 (List.mem_of_getElem? hmi)
                subst hi
                split <;> exact this
            · rw [Array.toList_modify, modify_map (·.key) _ kv j _ m' p2 rfl, List.map_set]
              exact (q4.le (le _)).set (hk.le (le _)) j
            · rw [Array.toList_modify, modify_map (·.val) _ vv j _ m' p2 rfl, List.map_set]
              exact (q5.le (le _)).set (hv.le (le _)) j)
          refine ⟨Δ, ?_, w2⟩
          rw [← w1]
          have hget : ms[j]? = some m' := by simpa using p2
          simp [Instr.mapUpdate, run_underlying hu, MapKept.run_getObj_map q1, checkKey_run hkk, Instr.findKey, run_underlying hd, p3, Instr.keyThatStays, hget, p6]
      · rename_i hf
        cases hr
        rcases findA_rel hkk hd hka hk q4 q5 hf with ⟨_, q⟩ | ⟨j', x, m', p1, _⟩
        · obtain ⟨Δ, w1, w2⟩ := wr (.map (ms.push { key := kv, val := vv, born := clock }) (clock + 1)) (.map (es ++ [(k, v)])) ⟨_, _, rfl⟩ (by
            simp only [BRel]
            refine ⟨_, clock + 1, setB_eq _ _ hlt, ?_, ?_, ?_, ?_⟩
            · rw [Array.toList_push, List.map_append, List.nodup_append]
              refine ⟨q2, by simp, ?_⟩
              intro a ha b hb
              simp at hb
              subst hb
              obtain ⟨m, hm, rfl⟩ := List.mem_map.1 ha
              have := q3 m hm
              omega
            · intro m hm
              rw [Array.toList_push, List.mem_append] at hm
              rcases hm with hm | hm
              · have := q3 m hm; omega
              · simp at hm; subst hm; simp
            · rw [Array.toList_push, List.map_append, List.map_append]
              exact (q4.le (le _)).append (by simp only [List.map_cons, List.map_nil, VRels]; exact ⟨_, _, rfl, hk.le (le _), rfl⟩)
            · rw [Array.toList_push, List.map_append, List.map_append]
              exact (q5.le (le _)).append (by simp only [List.map_cons, List.map_nil, VRels]; exact ⟨_, _, rfl, hv.le (le _), rfl⟩))
          refine ⟨Δ, ?_, w2⟩
          rw [← w1]
          simp [Instr.mapUpdate, run_underlying hu, MapKept.run_getObj_map q1, checkKey_run hkk, Instr.findKey, run_underlying hd, q]
        · cases p1
      · cases hr
    · cases hr
  · cases hr

end Go.Gi
