/- What a glob matches: plain lists. -/
/- Plain forms of globs, by plain lists: what they match, how long they are. -/
/- bytes.Repeat of one byte, walked; bytealg.MakeNoZero, bits.Mul. -/
/- bytes.Count of one byte; glob.Norm: what they give. -/
/- glob.Norm: what it gives. -/
import Derived.Test.YtakdhioafodhcaaGreatGiGlB
import Derived.Test.YtakdhioafodhcaaGreatGiXB
import Derived.Test.YtakdhioafodhcaaGreatGiOW
import Derived.Test.YtakdhioafodhcaaGreatGiSPE
set_option linter.unusedVariables false
set_option linter.unusedSimpArgs false
set_option linter.unusedSectionVars false

namespace Go.Gi
section
def anyTail (f : List UInt8 → Bool) : List UInt8 → Bool
 | [] => f []
 | b :: t => f (b :: t) || anyTail f t
def gm (s : UInt8 → UInt8 → Bool) : List UInt8 → List UInt8 → Bool
 | [], t => t.isEmpty
 | c :: p, t => if c = 42 then anyTail (gm s p) t else match t with
  | [] => false
  | b :: t' => (c == 63 || s c b) && gm s p t'
theorem anyTail_iff {f : List UInt8 → Bool} : ∀ {t : List UInt8}, anyTail f t = true ↔ ∃ k, k ≤ t.length ∧ f (t.drop k) = true
 | [] => by
  simp only [anyTail, List.length_nil, Nat.le_zero_eq, List.drop_nil]
  exact ⟨fun h => ⟨0, rfl, h⟩, fun ⟨_, _, h⟩ => h⟩
 | b :: t => by
  simp only [anyTail, Bool.or_eq_true, anyTail_iff (t := t), List.length_cons]
  constructor
  ·rintro (h | ⟨k, h1, h2⟩)
   ·exact ⟨0, by omega, h⟩
   ·exact ⟨k + 1, by omega, by simpa using h2⟩
  ·rintro ⟨k, h1, h2⟩
   cases k with
   | zero => exact .inl h2
   | succ k => exact .inr ⟨k, by omega, by simpa using h2⟩
theorem gm_star {s : UInt8 → UInt8 → Bool} {p t : List UInt8} : gm s (42 :: p) t = true ↔ ∃ k, k ≤ t.length ∧ gm s p (t.drop k) = true := by
 have e : gm s (42 :: p) t = anyTail (gm s p) t := by
  rw [gm.eq_def]
  simp only [if_true]
 rw [e]
 exact anyTail_iff
theorem gm_one {s : UInt8 → UInt8 → Bool} {c : UInt8} {p t : List UInt8} (hc : c ≠ 42) : gm s (c :: p) t = true ↔ ∃ b t', t = b :: t' ∧ (c = 63 ∨ s c b = true) ∧ gm s p t' = true := by
 rw [gm.eq_def]
 simp only [if_neg hc]
 cases t with
 | nil => simp
 | cons b t' =>
  simp only [Bool.and_eq_true, Bool.or_eq_true, beq_iff_eq]
  constructor
  ·exact fun h => ⟨b, t', rfl, h⟩
  ·rintro ⟨b', t'', h1, h2⟩
   cases h1
   exact h2
def noStar (q : List UInt8) : Prop := ∀ c ∈ q, c ≠ 42
theorem gm_noStar {s : UInt8 → UInt8 → Bool} {r : List UInt8} : ∀ {q u : List UInt8}, noStar q → gm s (q ++ r) u = true → q.length ≤ u.length ∧ gm s r (u.drop q.length) = true
 | [], u, _, h => ⟨by simp, by simpa using h⟩
 | c :: q, u, hn, h => by
  rw [List.cons_append, gm_one (hn c (by simp))] at h
  obtain ⟨b, t', rfl, _, h2⟩ := h
  obtain ⟨h3, h4⟩ := gm_noStar (fun c hc => hn c (by simp [hc])) h2
  exact ⟨by simp only [List.length_cons]; omega, by simpa using h4⟩
structure GInv (s : UInt8 → UInt8 → Bool) (p t : List UInt8) (i k a f : Nat) : Prop where
 ip : i ≤ p.length
 kt : k ≤ t.length
 none : a = 0 → (gm s p t = true ↔ gm s (p.drop i) (t.drop k) = true)
 ai : a ≠ 0 → a ≤ i ∧ f ≤ k ∧ i - a = k - f
 ns : a ≠ 0 → ∀ m, a ≤ m → m < i → p[m]? ≠ some 42
 all : a ≠ 0 → (gm s p t = true ↔ ∃ j, f ≤ j ∧ j ≤ t.length ∧ gm s (p.drop a) (t.drop j) = true)
 cur : a ≠ 0 → (gm s (p.drop a) (t.drop f) = true ↔ gm s (p.drop i) (t.drop k) = true)
theorem GInv.start (s : UInt8 → UInt8 → Bool) (p t : List UInt8) : GInv s p t 0 0 0 0 :=
 ⟨by simp, by simp, fun _ => by simp, by simp, by simp, by simp, by simp⟩
theorem drop_at {l : List UInt8} {i : Nat} {c : UInt8} (h : l[i]? = some c) : l.drop i = c :: l.drop (i + 1) := by
 obtain ⟨h1, h2⟩ := List.getElem?_eq_some_iff.1 h
 rw [List.drop_eq_getElem_cons h1, h2]
theorem GInv.mid {s : UInt8 → UInt8 → Bool} {p t : List UInt8} {i k a f : Nat} (h : GInv s p t i k a f) (ha : a ≠ 0) {j : Nat} (hj : j ≤ t.length) (hg : gm s (p.drop a) (t.drop j) = true) : i - a ≤ t.length - j ∧ gm s (p.drop i) (t.drop (j + (i - a))) = true := by
 obtain ⟨h1, h2, h3⟩ := h.ai ha
 have hip := h.ip
 have e : p.drop a = (p.drop a).take (i - a) ++ p.drop i := by
  conv => lhs; rw [← List.take_append_drop (i - a) (p.drop a)]
  rw [List.drop_drop, show a + (i - a) = i by omega]
 rw [e] at hg
 have hl : ((p.drop a).take (i - a)).length = i - a := by rw [List.length_take, List.length_drop]; omega
 obtain ⟨h4, h5⟩ := gm_noStar (q := (p.drop a).take (i - a)) (by
  intro c hc he
  subst he
  obtain ⟨m, hm, hx⟩ := List.mem_iff_getElem.1 hc
  rw [hl] at hm
  rw [List.getElem_take, List.getElem_drop] at hx
  exact h.ns ha (a + m) (by omega) (by omega) (by rw [← hx]; exact List.getElem?_eq_getElem (by omega))) hg
 rw [hl, List.length_drop] at h4
 rw [hl, List.drop_drop] at h5
 exact ⟨h4, h5⟩
theorem GInv.star {s : UInt8 → UInt8 → Bool} {p t : List UInt8} {i k a f : Nat} (h : GInv s p t i k a f) (hc : p[i]? = some 42) : GInv s p t (i + 1) k (i + 1) k := by
 have hlt : i < p.length := (List.getElem?_eq_some_iff.1 hc).1
 have hkt := h.kt
 have e : gm s (p.drop i) (t.drop k) = true ↔ ∃ j, k ≤ j ∧ j ≤ t.length ∧ gm s (p.drop (i + 1)) (t.drop j) = true := by
  rw [drop_at hc, gm_star]
  constructor
  ·rintro ⟨j, h1, h2⟩
   rw [List.length_drop] at h1
   rw [List.drop_drop] at h2
   exact ⟨k + j, by omega, by omega, h2⟩
  ·rintro ⟨j, h1, h2, h3⟩
   refine ⟨j - k, by rw [List.length_drop]; omega, ?_⟩
   rw [List.drop_drop, show k + (j - k) = j by omega]
   exact h3
 refine ⟨hlt, h.kt, by simp, fun _ => ⟨by omega, by omega, by omega⟩, fun _ m h1 h2 => by omega, fun _ => ?_, fun _ => Iff.rfl⟩
 by_cases ha : a = 0
 ·rw [h.none ha]
  exact e
 ·rw [h.all ha]
  obtain ⟨h1, h2, h3⟩ := h.ai ha
  constructor
  ·rintro ⟨j, h4, h5, h6⟩
   obtain ⟨h7, h8⟩ := h.mid ha h5 h6
   rw [drop_at hc, gm_star] at h8
   obtain ⟨m, h9, h10⟩ := h8
   rw [List.length_drop] at h9
   rw [List.drop_drop] at h10
   exact ⟨j + (i - a) + m, by omega, by omega, h10⟩
  ·intro h4
   exact ⟨f, Nat.le_refl _, by omega, (h.cur ha).2 (e.2 h4)⟩
theorem GInv.one {s : UInt8 → UInt8 → Bool} {p t : List UInt8} {i k a f : Nat} (h : GInv s p t i k a f) {c b : UInt8} (hc : p[i]? = some c) (hb : t[k]? = some b) (hn : c ≠ 42) (hm : c = 63 ∨ s c b = true) : GInv s p t (i + 1) (k + 1) a f := by
 have hlt : i < p.length := (List.getElem?_eq_some_iff.1 hc).1
 have hlk : k < t.length := (List.getElem?_eq_some_iff.1 hb).1
 have e : gm s (p.drop i) (t.drop k) = true ↔ gm s (p.drop (i + 1)) (t.drop (k + 1)) = true := by
  rw [drop_at hc, drop_at hb, gm_one hn]
  constructor
  ·rintro ⟨b', t', h1, _, h2⟩
   cases h1
   exact h2
  ·exact fun h1 => ⟨b, _, rfl, hm, h1⟩
 refine ⟨hlt, hlk, fun ha => (h.none ha).trans e, fun ha => ?_, fun ha m h1 h2 => ?_, h.all, fun ha => (h.cur ha).trans e⟩
 ·obtain ⟨h1, h2, h3⟩ := h.ai ha
  exact ⟨by omega, by omega, by omega⟩
 ·by_cases hm' : m = i
  ·subst hm'
   rw [hc]
   simpa using hn
  ·exact h.ns ha m h1 (by omega)
theorem GInv.back {s : UInt8 → UInt8 → Bool} {p t : List UInt8} {i k a f : Nat} (h : GInv s p t i k a f) (ha : a ≠ 0) (hk : k < t.length) (hm : ¬ gm s (p.drop i) (t.drop k) = true) : GInv s p t a (f + 1) a (f + 1) := by
 obtain ⟨h1, h2, h3⟩ := h.ai ha
 have hip := h.ip
 refine ⟨by omega, by omega, fun h0 => absurd h0 ha, fun _ => ⟨by omega, by omega, by omega⟩, fun _ m h4 h5 => by omega, fun _ => ?_, fun _ => Iff.rfl⟩
 rw [h.all ha]
 constructor
 ·rintro ⟨j, h4, h5, h6⟩
  by_cases hj : j = f
  ·subst hj
   exact absurd ((h.cur ha).1 h6) hm
  ·exact ⟨j, by omega, h5, h6⟩
 ·rintro ⟨j, h4, h5, h6⟩
  exact ⟨j, by omega, h5, h6⟩
theorem GInv.last {s : UInt8 → UInt8 → Bool} {p t : List UInt8} {i k a f : Nat} (h : GInv s p t i k a f) (hk : k = t.length) : gm s p t = true ↔ gm s (p.drop i) [] = true := by
 subst hk
 by_cases ha : a = 0
 ·rw [h.none ha, List.drop_length]
 ·obtain ⟨h1, h2, h3⟩ := h.ai ha
  rw [h.all ha]
  constructor
  ·rintro ⟨j, h4, h5, h6⟩
   obtain ⟨h7, h8⟩ := h.mid ha h5 h6
   rw [List.drop_eq_nil_iff.2 (show t.length ≤ j + (i - a) by omega)] at h8
   exact h8
  ·intro h4
   refine ⟨f, Nat.le_refl _, h2, (h.cur ha).2 ?_⟩
   rw [List.drop_length]
   exact h4
end
section
def normS : Bool → List UInt8 → List UInt8
 | b, [] => if b then [42] else []
 | b, c :: p => if c = 42 then normS true p else if c = 63 then 63 :: normS b p else (if b then [42] else []) ++ c :: normS false p
def normB (p : List UInt8) : List UInt8 := normS false p
theorem norm_idem : ∀ (p : List UInt8) (b : Bool), normS false (normS b p) = normS b p
 | [], b => by cases b <;> simp [normS]
 | c :: p, b => by
  by_cases h42 : c = 42
  ·subst h42
   simp only [normS, if_true]
   exact norm_idem p true
  ·by_cases h63 : c = 63
   ·subst h63
    simp only [normS, if_neg h42, if_true]
    rw [norm_idem p b]
   ·cases b
    ·simp only [normS, if_neg h42, if_neg h63, Bool.false_eq_true, if_false, List.nil_append, norm_idem p false]
    ·simp only [normS, if_neg h42, if_neg h63, if_true, List.cons_append, List.nil_append, norm_idem p false]
theorem norm_len : ∀ (p : List UInt8) (b : Bool), (normS b p).length ≤ p.length + if b then 1 else 0
 | [], b => by cases b <;> simp [normS]
 | c :: p, b => by
  have h1 := norm_len p true
  have h2 := norm_len p b
  have h3 := norm_len p false
  simp only [if_true, Bool.false_eq_true, if_false] at h1 h3
  by_cases h42 : c = 42
  ·subst h42
   simp only [normS, if_true, List.length_cons]
   omega
  ·by_cases h63 : c = 63
   ·subst h63
    simp only [normS, if_neg h42, if_true, List.length_cons]
    omega
   ·cases b
    ·simp only [normS, if_neg h42, if_neg h63, Bool.false_eq_true, if_false, List.nil_append, List.length_cons]
     omega
    ·simp only [normS, if_neg h42, if_neg h63, if_true, List.cons_append, List.nil_append, List.length_cons]
     omega
theorem normB_len (p : List UInt8) : (normB p).length ≤ p.length := by simpa [normB] using norm_len p false
theorem normS_wild : ∀ (w rest : List UInt8) (b : Bool), (∀ c ∈ w, c = 42 ∨ c = 63) → normS b (w ++ rest) = List.replicate (w.count 63) 63 ++ normS (b || decide (42 ∈ w)) rest
 | [], rest, b, _ => by simp
 | c :: w, rest, b, h => by
  have hw : ∀ c ∈ w, c = 42 ∨ c = 63 := fun x hx => h x (List.mem_cons_of_mem _ hx)
  rcases h c List.mem_cons_self with rfl | rfl
  ·simp only [List.cons_append, normS, if_true]
   rw [normS_wild w rest true hw]
   simp
  ·simp only [List.cons_append, normS, if_neg (show ¬ (63 : UInt8) = 42 by decide), if_true]
   rw [normS_wild w rest b hw]
   simp [List.replicate_succ]
theorem normS_plain {c : UInt8} (h42 : c ≠ 42) (h63 : c ≠ 63) (b : Bool) (p : List UInt8) : normS b (c :: p) = (if b then [42] else []) ++ c :: normS false p := by
 simp only [normS, if_neg h42, if_neg h63]
theorem normS_end (b : Bool) (rest : List UInt8) (h : rest = [] ∨ ∃ c p, rest = c :: p ∧ c ≠ 42 ∧ c ≠ 63) : normS b rest = (if b then [42] else []) ++ normS false rest := by
 rcases h with rfl | ⟨c, p, rfl, h1, h2⟩
 ·cases b <;> simp [normS]
 ·rw [normS_plain h1 h2, normS_plain h1 h2]
  simp
theorem count_wild {w : List UInt8} (h : ∀ c ∈ w, c = 42 ∨ c = 63) : w.count 63 < w.length ↔ 42 ∈ w := by
 induction w with
 | nil => simp
 | cons c w ih =>
  have hw : ∀ c ∈ w, c = 42 ∨ c = 63 := fun x hx => h x (List.mem_cons_of_mem _ hx)
  have ih := ih hw
  have hle : w.count 63 ≤ w.length := List.count_le_length
  rcases h c List.mem_cons_self with rfl | rfl
  ·simp
   omega
  ·simp
   simpa using ih
end
section
open Go Go.Proofs
theorem digX : ∀ (n t : Nat) (acc : Array Value), ∃ l : List Value, (Extern.BytealgMakeNoZero.digits n t acc).toList = acc.toList ++ l ∧ l.length = n ∧ ∀ v ∈ l, ∃ x : Nat, v = .int .u8 (Int.ofNat x)
 | 0, t, acc => ⟨[], by simp [Extern.BytealgMakeNoZero.digits], rfl, by simp⟩
 | n + 1, t, acc => by
  obtain ⟨l, h1, h2, h3⟩ := digX n (t / 256) (acc.push (.int .u8 (Int.ofNat (t % 256))))
  refine ⟨.int .u8 (Int.ofNat (t % 256)) :: l, ?_, by simp [h2], ?_⟩
  ·simp only [Extern.BytealgMakeNoZero.digits, h1]
   simp
  ·intro v hv
   rcases List.mem_cons.1 hv with rfl | hv
   ·exact ⟨_, rfl⟩
   ·exact h3 v hv
theorem mnzX {P : Program} {g : FuncId} {fn : Func} (hfn : P.funcs[g]? = some fn) (hname : (fn.name == "runtime.NumGoroutine") = false) (hb : fn.body.isNone = true) (hn : (Extern.findNext fn).isNone = true) (hf : Extern.find fn = some (Extern.BytealgMakeNoZero.makeNoZero fn.params fn.resultTypes)) {t e : TypeId} (ht : fn.resultTypes[0]? = some t) (hu : P.underlying t = some (.slice e)) {n : Int} {hp : HP} (h0 : 0 ≤ n) (hmax : n ≤ 1099511627776) : AExt P g [.int .i64 n] hp fun a b => a = .sl hp.length 0 n.toNat 1 n.toNat false ∧ b = hp ++ [some (.row e (List.replicate n.toNat .unk))] := by
 intro Γ vs hh hl hv
 have hb2 : 0 ≤ n ∧ n ≤ 1099511627776 := ⟨h0, hmax⟩
 obtain ⟨v, rfl, h1⟩ := hv.one'
 simp only [VRel] at h1
 subst h1
 have hh1 := hh.drewN 1
 -- what was drawn
 let cap := grownCap Γ.w n.toNat 0 e
 let q : Question := .extern "internal/bytealg.MakeNoZero.bytes" 0
 let bytes := q.cut (Γ.w.drew.tape Γ.w.drew.drawn q)
 obtain ⟨l, d1, d2, d3⟩ := digX cap bytes #[]
 have hge : n.toNat ≤ cap := grownCap_ge Γ.w n.toNat 0 e
 have hrel : ∀ (k : Nat) (l : List Value), k ≤ l.length → (∀ v ∈ l, ∃ x : Nat, v = .int .u8 (Int.ofNat x)) → VRels (Γ.drewN 1) (List.replicate k .unk) (l.take k) := by
  intro k
  induction k with
  | zero => intro l _ _; simp [VRels]
  | succ k ih =>
   intro l hk hl3
   cases l with
   | nil => simp at hk
   | cons a l =>
    obtain ⟨x, hx⟩ := hl3 a (by simp)
    simp only [List.replicate_succ, List.take_succ_cons, VRels]
    exact ⟨_, _, rfl, by simp only [VRel]; exact ⟨_, _, hx⟩, ih l (by simpa using hk) fun v hv => hl3 v (by simp [hv])⟩
 have hone : ∀ u ∈ l.take n.toNat, one u = true := fun u hu' => by
  obtain ⟨x, rfl⟩ := d3 u (List.mem_of_mem_take hu')
  rfl
 obtain ⟨Δ, p1, p2, p3, p4⟩ := grown_row (P := P) hh1 e (hrel n.toNat l (by omega) d3) hone (l.drop n.toNat) cap n.toNat 1 (by rw [List.take_append_drop]; omega) hge
 refine ⟨.slice (some ⟨Γ.w.heap.size, 0, none⟩) n.toNat cap, _, _, Δ, ?_, p2, p3, (Ev.drewN Γ hp 1).trans p4, rfl, rfl⟩
 refine run_extern hfn hname hb hn hf _ _ ?_
 have hlit : ¬ (n < 0 ∨ n > 2 ^ 48) := by
  have : (2 : Int) ^ 48 = 281474976710656 := by decide
  omega
 rw [List.take_append_drop] at p1
 have he : Extern.BytealgMakeNoZero.makeNoZero fn.params fn.resultTypes ⟨[.int .i64 n]⟩ = (do
   let some t := fn.resultTypes[0]? | stuck "bytealg.MakeNoZero: no result type"
   let .slice elem ← underlying t | stuck "bytealg.MakeNoZero: slice type expected"
   if n < 0 || n > 2 ^ 48 then runtimePanic (.error "makeslice: len out of range")
   let cap ← choose (.appendCap n.toNat 0 elem)
   askRoom cap
   let bytes ← choose (.extern "internal/bytealg.MakeNoZero.bytes" 0)
   let a ← newRow elem (Extern.BytealgMakeNoZero.digits cap bytes #[])
   pure (.slice (some a) n.toNat cap)) := rfl
 rw [he]
 have hforced : (Question.appendCap n.toNat 0 e).forced = false := rfl
 have hforced2 : (Question.extern "internal/bytealg.MakeNoZero.bytes" 0).forced = false := by simp [Question.forced]
 have hc1 : (choose (.appendCap n.toNat 0 e)).run P Γ.w = .ok cap Γ.w.drew := by
  rw [run_choose, hforced]
  rfl
 have hc2 : (choose (.extern "internal/bytealg.MakeNoZero.bytes" 0)).run P Γ.w.drew = .ok bytes Γ.w.drew.drew := by
  rw [run_choose, hforced2]
  rfl
 have hdig : Extern.BytealgMakeNoZero.digits cap bytes #[] = ⟨l⟩ := by
  apply Array.ext'
  rw [d1]
  simp
 have hcond : (decide (n < 0) || decide (n > 2 ^ 48)) = false := by
  simp only [not_or] at hlit
  simp only [decide_eq_false hlit.1, decide_eq_false hlit.2, Bool.or_self]
 simp only [ht, hcond, Bool.false_eq_true, newRow, if_false, Sem.run_bind, run_underlying hu, Result.andThen_ok, hc1, run_askRoom, Sem.run_pure, hc2, hdig]
 rw [p1]
 rfl
theorem extMnz (n : Int) {hp : HP} (h0 : 0 ≤ n) (hmax : n ≤ 1099511627776) : AExt Tryz.prog 75 [.int .i64 n] hp fun a b => a = .sl hp.length 0 n.toNat 1 n.toNat false ∧ b = hp ++ [some (.row 5 (List.replicate n.toNat .unk))] :=
 mnzX (fn := Tryz.f75) (t := 60) (by kernel_rfl) (by kernel_rfl) (by kernel_rfl) (by kernel_rfl) (by kernel_rfl) (by kernel_rfl) (by kernel_rfl) h0 hmax
theorem pMul64 (n : Nat) (hn : n ≤ 300) : PCF Tryz.prog 95 [.int .u64 1, .int .u64 (n : Int)] (.tup [.int .u64 0, .int .u64 (n : Int)]) := by
 refine pcf_e hmG (TabOk.none _) comp95 (by decide) (by simp) (nidL_ok rfl) ?_
 have hm : ∀ k : Fin 301, k.val &&& 4294967295 = k.val := by decide +kernel
 have a1 : binA .and .prim (.int .u64 1) (.int .u64 4294967295) = some (.int .u64 1) := band (x := 1) (y := 4294967295) (by omega) (by omega)
 have a2 : binA .and .prim (.int .u64 (n : Int)) (.int .u64 4294967295) = some (.int .u64 (n : Int)) := by
  have := band (x := n) (y := 4294967295) (K := .prim) (by omega) (by omega)
  rw [hm ⟨n, by omega⟩] at this
  exact this
 have a3 : binA .and .prim (.int .u64 0) (.int .u64 4294967295) = some (.int .u64 0) := band (x := 0) (y := 4294967295) (by omega) (by omega)
 have s1 : binA .shr .prim (.int .u64 1) (.int .u64 32) = some (.int .u64 0) := bshr (x := 1) (k := 32) (q := .u64) (by omega)
 have s2 : binA .shr .prim (.int .u64 (n : Int)) (.int .u64 32) = some (.int .u64 0) := by
  have := bshr (x := n) (k := 32) (q := .u64) (K := .prim) (by omega)
  rw [show n / 2 ^ 32 = 0 from Nat.div_eq_of_lt (by omega)] at this
  exact this
 have s3 : binA .shr .prim (.int .u64 0) (.int .u64 32) = some (.int .u64 0) := bshr (x := 0) (k := 32) (q := .u64) (by omega)
 have m1 : binA .mul .prim (.int .u64 1) (.int .u64 (n : Int)) = some (.int .u64 (n : Int)) := by
  simp only [binA, intA, if_true, Int.one_mul]
  rw [wrapU (by omega)]
 have m2 : binA .mul .prim (.int .u64 0) (.int .u64 (n : Int)) = some (.int .u64 0) := by
  simp only [binA, intA, if_true, Int.zero_mul]
  rfl
 have m3 : binA .mul .prim (.int .u64 1) (.int .u64 0) = some (.int .u64 0) := rfl
 have m4 : binA .mul .prim (.int .u64 0) (.int .u64 0) = some (.int .u64 0) := rfl
 have d1 : binA .add .prim (.int .u64 0) (.int .u64 0) = some (.int .u64 0) := rfl
 refine vcE.ex (by simp (disch := first | assumption | omega) only [go_sem, ↓reduceIte, reduceCtorEq, ↓a1, ↓s1, Nat.reduceEqDiff, ↓a2, ↓s2, ↓m1, ↓m2, ↓d1, ↓a3, ↓s3, ↓m3, ↓m4]; rfl) ?_
 exact ⟨_, rfl, rfl⟩
def U0 : Tab := Tab.none.add 95 fun
 | [.int .u64 1, .int .u64 n] => if 0 ≤ n ∧ n ≤ 300 then some (.rd true (.tup [.int .u64 0, .int .u64 n])) else none
 | _ => none
theorem U0_ok : TabOk Tryz.prog U0 := by
 refine TabOk.add (TabOk.none _) ?_
 intro xs r h
 split at h
 ·rename_i n
  split at h
  ·rename_i hv
   cases h
   have := pMul64 n.toNat (by omega)
   rw [Int.toNat_of_nonneg hv.1] at this
   exact this
  ·cases h
 ·cases h
theorem pMul (n : Nat) (hn : n ≤ 300) : PCF Tryz.prog 74 [.int .u64 1, .int .u64 (n : Int)] (.tup [.int .u64 0, .int .u64 (n : Int)]) := by
 refine pcf_e hmG U0_ok comp74 (by decide) (by simp) (nidL_ok rfl) ?_
 have h0 : U0 95 [.int .u64 1, .int .u64 (n : Int)] = some (.rd true (.tup [.int .u64 0, .int .u64 (n : Int)])) := by
  show (if (0 : Int) ≤ (n : Int) ∧ (n : Int) ≤ 300 then _ else _) = _
  rw [if_pos ⟨by omega, by omega⟩]
 refine vcE.ex (by simp (disch := first | assumption | omega) only [go_sem, ↓reduceIte, reduceCtorEq, Nat.reduceEqDiff, h0]; rfl) ?_
 exact ⟨_, rfl, rfl⟩
def U1 : Tab := Tab.none.add 74 fun
 | [.int .u64 1, .int .u64 n] => if 0 ≤ n ∧ n ≤ 300 then some (.rd true (.tup [.int .u64 0, .int .u64 n])) else none
 | _ => none
theorem U1_ok : TabOk Tryz.prog U1 := by
 refine TabOk.add (TabOk.none _) ?_
 intro xs r h
 split at h
 ·rename_i n
  split at h
  ·rename_i hv
   cases h
   have := pMul n.toNat (by omega)
   rw [Int.toNat_of_nonneg hv.1] at this
   exact this
  ·cases h
 ·cases h
def rq (k m : Nat) : List AV := List.replicate k (.int .u8 63) ++ List.replicate m .unk
theorem rq_len (k m : Nat) : (rq k m).length = k + m := by simp [rq]
theorem rq_over {k m j : Nat} (h : j ≤ m) : over (rq k m) k (List.replicate j (.int .u8 63)) = rq (k + j) (m - j) := by
 rw [over, rq, List.take_append_of_le_length (by simp), List.take_of_length_le (by simp), List.length_replicate, List.drop_append, List.length_replicate, List.drop_eq_nil_of_le (by simp), List.nil_append, List.drop_replicate, List.replicate_append_replicate, show m - (k + j - k) = m - j by omega]
 rfl
theorem rq_copy {n k lo1 lo2 : Nat} {b1 b2 : Bool} (h0 : 1 ≤ k) (h : k < n) : copyA [some (.row 5 (rq k (n - k)))] 1 (.sl 0 k (n - k) 1 lo1 b1) (.sl 0 0 k 1 lo2 b2) = some (.int .i64 ((min k (n - k) : Nat) : Int), [some (.row 5 (rq (k + min k (n - k)) (n - (k + min k (n - k)))))]) := by
 have hl : (rq k (n - k)).length = n := by rw [rq_len]; omega
 have ht : ∀ j, j ≤ k → (rq k (n - k)).take j = List.replicate j (.int .u8 63) := by
  intro j hj
  rw [rq, List.take_append_of_le_length (by simpa using hj), List.take_replicate, Nat.min_eq_left hj]
 simp only [copyA, srcA, shortA, List.getElem?_cons_zero, hl, Nat.mul_one, Nat.zero_add, List.drop_zero]
 rw [if_pos ⟨trivial, by omega⟩]
 simp only [Nat.min_le_left, if_true, List.getElem?_cons_zero, hl, Nat.mul_one, Nat.zero_add, List.drop_zero]
 rw [if_pos ⟨trivial, by omega⟩]
 simp only
 rw [if_pos ⟨⟨trivial, by omega⟩, trivial⟩, ht _ (Nat.min_le_left _ _), rq_over (Nat.min_le_right _ _)]
 rw [show n - k - min k (n - k) = n - (k + min k (n - k)) by omega]
 rfl
theorem pRepeat (n : Nat) (h : n ≤ 300) : PCF Tryz.prog 62 [.fsl [.int .u8 63] 1, .int .i64 n] (.fsl (List.replicate n (.int .u8 63)) n) := by
 refine pcf_e hmG U1_ok comp62 (by decide) (by simp) (nidL_ok rfl) ?_
 refine vcE.step (by simp (disch := first | assumption | omega) only [go_sem, ↓reduceIte]; rfl) ?_
 by_cases h0 : n = 0
 ·subst h0
  refine vcE.ex (by simp (disch := first | assumption | omega) only [go_sem, ↓reduceIte, Nat.reduceEqDiff]; rfl) ?_
  exact ⟨_, rfl, rfl⟩
 have h0' : ¬ (n : Int) = 0 := by omega
 have hneg : ¬ (n : Int) < 0 := by omega
 have w1 := wrapU (n := n) (by omega)
 have w2 : IntKind.wrap .u64 1 = 1 := rfl
 have c1 : ((1 : Nat) : Int) = 1 := rfl
 have c0 : ¬ (1 : Int) = 0 := by omega
 have w3 := natW (x := (n : Int)) n rfl (by omega)
 have hmul : U1 74 [.int .u64 1, .int .u64 (n : Int)] = some (.rd true (.tup [.int .u64 0, .int .u64 (n : Int)])) := by
  show (if (0 : Int) ≤ (n : Int) ∧ (n : Int) ≤ 300 then _ else _) = _
  rw [if_pos ⟨by omega, by omega⟩]
 have hbig : ¬ (9223372036854775807 : Int) < (n : Int) := by omega
 have hch : ¬ (8192 : Int) < (n : Int) := by omega
 refine vcE.step (by simp (disch := first | assumption | omega) only [go_sem, ↓reduceIte, Nat.reduceEqDiff, h0', decide_false]; rfl) (vcE.step (by simp (disch := first | assumption | omega) only [go_sem, ↓reduceIte, Nat.reduceEqDiff, hneg, decide_false]; rfl) (vcE.step (by simp (disch := first | assumption | omega) only [go_sem, ↓reduceIte, reduceCtorEq, c1, w2, Nat.reduceEqDiff, w1, hmul]; rfl) (vcE.step (by simp (disch := first | assumption | omega) only [go_sem, ↓reduceIte, Nat.reduceEqDiff, gt_iff_lt, hbig, decide_false]; rfl) (vcE.step (by simp (disch := first | assumption | omega) only [go_sem, ↓reduceIte, Nat.reduceEqDiff, w3]; rfl) (vcE.step (by simp (disch := first | assumption | omega) only [go_sem, ↓reduceIte, reduceCtorEq, c1, c0, decide_false]; rfl) (vcE.step (by simp (disch := first | assumption | omega) only [go_sem, ↓reduceIte, Nat.reduceEqDiff]; rfl) (vcE.step (by simp (disch := first | assumption | omega) only [go_sem, ↓reduceIte, hch, decide_false]; rfl) ?_)))))))
 have hsl : sliceA 1 (.sl 0 0 n 1 n false) none (some (.int .i64 (n : Int))) (some (.int .i64 (n : Int))) = some (.sl 0 0 n 1 n true) := by
  simp [sliceA, bndA, cutA]
 refine vcE.then (fun e' tm' hp' => e' = .normal ∧ hp' = [some (.row 5 (rq 0 n))] ∧ tm' 0 = .fsl [.int .u8 63] 1 ∧ tm' 7 = .int .i64 (n : Int) ∧ tm' 8 = .int .i64 (n : Int) ∧ tm' 9 = .sl 0 0 n 1 n true) ?_ ?_
 ·rw [show r62_16 = r62_16.take 1 ++ (r62_16.drop 1).take 1 ++ r62_16.drop 2 from rfl]
  refine vcE.app (vcE.app (vcE.ex (by simp (disch := first | assumption | omega) only [go_sem, ↓reduceIte, Nat.reduceEqDiff]; rfl) ⟨rfl, vcE.ext (f := 75) (caps := []) (ys := [.int .i64 (n : Int)]) rfl ?_ (extMnz (n : Int) (by omega) (by omega)) ?_⟩))
  ·simp only [evsE, evE, upd_app, Nat.reduceEqDiff, ↓reduceIte]
  rintro r hp' ⟨rfl, rfl⟩
  rw [Int.toNat_natCast]
  refine ⟨rfl, vcE.ex (by simp (disch := first | assumption | omega) only [go_sem, ↓reduceIte, Nat.reduceEqDiff, ↓hsl]; rfl) ?_⟩
  refine ⟨rfl, rfl, ?_, ?_, ?_, ?_⟩
  all_goals first | (simp only [upd_app, Nat.reduceEqDiff, ↓reduceIte]; done) | (simp only [upd_app, Nat.reduceEqDiff, ↓reduceIte]; rfl)
 rintro e' tm hp ⟨rfl, rfl, t0, t7, t8, t9⟩
 have hc0 : copyA [some (.row 5 (rq 0 n))] 1 (.sl 0 0 n 1 n true) (.fsl [.int .u8 63] 1) = some (.int .i64 1, [some (.row 5 (rq 1 (n - 1)))]) := by
  have hmin : min 1 n = 1 := by omega
  have ho := rq_over (k := 0) (m := n) (j := 1) (by omega)
  have hl := rq_len 0 n
  have hmin2 : Nat.min 1 n = 1 := hmin
  simp only [copyA, srcA, shortA, List.getElem?_cons_zero, List.length_singleton, if_true, Nat.mul_one, Nat.zero_add, hl]
  have hm1 : min 1 n ≤ 1 := by omega
  rw [if_pos hm1]
  simp only [show min 1 n = 1 from hmin, List.take_succ_cons, List.take_zero, List.length_singleton, if_true, and_self, Nat.le_refl]
  refine congrArg some (congrArg _ ?_)
  exact congrArg (fun x => [some (Blk.row 5 x)]) ho
 refine vcE.step (by simp (disch := first | assumption | omega) only [go_sem, ↓reduceIte, t9, reduceCtorEq, t0, Nat.reduceEqDiff, ↓hc0]; rfl) ?_
 refine vcE.then (fun e' tm' hp' => e' = .normal ∧ hp' = [some (.row 5 (rq n 0))] ∧ tm' 9 = .sl 0 0 n 1 n true) ?_ ?_
 ·refine vcE.block (vcE.loop (by intro l tm hp h; simp at h) (fun k tm' hp' => ∃ j : Nat, k = n - j ∧ 1 ≤ j ∧ j ≤ n ∧ hp' = [some (.row 5 (rq j (n - j)))] ∧ tm' 7 = .int .i64 (n : Int) ∧ tm' 8 = .int .i64 (n : Int) ∧ tm' 9 = .sl 0 0 n 1 n true ∧ tm' 10 = .int .i64 (j : Int)) (n - 1) ⟨1, rfl, Nat.le_refl _, by omega, rfl, ?_, ?_, ?_, ?_⟩ ?_)
  ·simp only [upd_app, Nat.reduceEqDiff, ↓reduceIte, t7]
  ·simp only [upd_app, Nat.reduceEqDiff, ↓reduceIte, t8]
  ·simp only [upd_app, Nat.reduceEqDiff, ↓reduceIte, t9]
  ·simp only [upd_app, Nat.reduceEqDiff, ↓reduceIte]
   rfl
  clear t0 t7 t8 t9 hc0
  rintro k tm hp ⟨j, rfl, hj1, hjn, rfl, t7, t8, t9, t10⟩
  by_cases hlt : j < n
  rotate_left
  ·have : j = n := by omega
   subst this
   refine vcE.ex (by simp (disch := first | assumption | omega) only [go_sem, ↓reduceIte, t10, Nat.reduceEqDiff, t7, Int.ofNat_lt, hlt, decide_false]; rfl) ?_
   refine ⟨rfl, by rw [Nat.sub_self], ?_⟩
   simp only [upd_app, Nat.reduceEqDiff, ↓reduceIte, t9]
  have hmn : minmaxA false [.int .i64 (j : Int), .int .i64 (n : Int)] = some (.int .i64 (j : Int)) := by
   simp only [minmaxA, minmaxA.go, Bool.false_eq_true, if_false]
   rw [if_neg (by omega)]
  have s1 : sliceA 1 (.sl 0 0 n 1 n true) (some (.int .i64 (j : Int))) none none = some (.sl 0 j (n - j) 1 (n - j) true) := by
   simp [sliceA, bndA, cutA]
   omega
  have s2 : sliceA 1 (.sl 0 0 n 1 n true) none (some (.int .i64 (j : Int))) none = some (.sl 0 0 j 1 n true) := by
   simp [sliceA, bndA, cutA]
   omega
  have hc := rq_copy (n := n) (k := j) (lo1 := n - j) (lo2 := n) (b1 := true) (b2 := true) hj1 hlt
  have wj := natW (x := (j : Int) + ((min j (n - j) : Nat) : Int)) (j + min j (n - j)) (by omega) (by omega)
  refine vcE.ex (by simp (disch := first | assumption | omega) only [go_sem, ↓reduceIte, t10, Nat.reduceEqDiff, t7, Int.ofNat_lt, hlt, t8, ↓hmn, t9, ↓s1, ↓s2, ↓hc, wj]; rfl) ?_
  refine ⟨n - (j + min j (n - j)), by omega, j + min j (n - j), rfl, by omega, by omega, rfl, ?_, ?_, ?_, ?_⟩
  all_goals simp only [upd_app, Nat.reduceEqDiff, ↓reduceIte, t7, t8, t9]
 rintro e' tm hp ⟨rfl, rfl, t9⟩
 refine vcE.ex (by simp (disch := first | assumption | omega) only [go_sem, ↓reduceIte, t9]; rfl) ?_
 refine ⟨.sl 0 0 n 1 n true, ?_, ?_⟩
 ·simp only [resE, resEL, resE1, upd_app, Nat.reduceEqDiff, ↓reduceIte]
 ·have he : rq n 0 = encB.cs (List.replicate n 63) := by
   rw [encB_cs, rq, List.replicate_zero, List.append_nil, List.map_replicate]
   rfl
  have := encB.sl_fresh (hp := [some (.row 5 (encB.cs (List.replicate n 63)))]) (id := 0) (e := 5) (l := List.replicate n 63) (lo := n) (ex := true) rfl
  rw [List.length_replicate] at this
  rw [he]
  refine this.trans ?_
  rw [Enc.S, encB_cs, List.map_replicate, List.length_replicate]
  rfl
end
section
open Go Go.Proofs
theorem countB_eq (c : UInt8) : ∀ (bs : List UInt8) (n : Int), bs.foldl (fun (n : Int) x => if x == c then n + 1 else n) n = n + bs.count c
 | [], n => by simp
 | b :: bs, n => by
  rw [List.foldl_cons, countB_eq c bs, List.count_cons]
  by_cases h : b = c
  ·subst h; simp; omega
  ·simp [h]
theorem ext_count {s : List UInt8} {c : UInt8} {hp : HP} {x : AV} {n : Nat} (hx : srcA hp 1 x = some (encB.cs s, n)) : AExt Tryz.prog 72 [x, .int .u8 c.toNat] hp fun r hp' => r = .int .i64 (s.count c) ∧ hp' = hp := by
 have hc : countE hp [x, .int .u8 c.toNat] = some (.int .i64 (s.count c), hp, hp.length) := by
  simp only [countE, hx, unbyte_encB]
  rw [show (c.toNat : Int).toNat.toUInt8 = c by simp, countB, countB_eq]
  simp
 exact count_extA (fn := Tryz.f72) (by kernel_rfl) (by kernel_rfl) (by kernel_rfl) (by kernel_rfl) (by kernel_rfl) hc
theorem pCount (s : List UInt8) (c : UInt8) : PCF Tryz.prog 61 [encB.S s, .fsl [.int .u8 c.toNat] 1] (.int .i64 (s.count c)) := by
 refine pcf_e hmG (TabOk.none _) comp61 (by decide) (by simp) (nidL_ok (by simp only [nidL, Enc.S_nid]; rfl)) ?_
 repeat' (first | refine vcE.seq ?_ | refine vcE.block ?_ | (refine vcE.condTrue ?_ ?_; first | rfl | (simp (disch := first | assumption | omega) only [go_sem, Nat.reduceEqDiff, ↓reduceIte, reduceCtorEq, Nat.reduceAdd, Nat.reduceLeDiff] <;> rfl)) | (refine vcE.condFalse ?_ ?_; first | rfl | (simp (disch := first | assumption | omega) only [go_sem, Nat.reduceEqDiff, ↓reduceIte, reduceCtorEq, Nat.reduceAdd, Nat.reduceLeDiff] <;> rfl)) | (refine vcE.condND _ rfl (fun hc => ?_) (fun hc => ?_) <;> try (exfalso; first | omega | contradiction)) | (refine vcE.condD _ rfl (fun hc => ?_) (fun hc => ?_) <;> try (exfalso; first | omega | contradiction)) | (refine vcE.condNB _ rfl (fun hc => ?_) (fun hc => ?_) <;> try (exfalso; first | omega | contradiction)) | (refine vcE.condB _ rfl (fun hc => ?_) (fun hc => ?_) <;> try (exfalso; first | omega | contradiction)) | (apply vcE.ex; (simp (disch := first | assumption | omega) only [go_sem, ↓reduceIte, Nat.reduceEqDiff] <;> rfl)) | fail)
 rw [show r61_4 = r61_4.take 4 ++ ((r61_4.drop 4).take 1 ++ r61_4.drop 5) from rfl]
 refine vcE.app (vcE.ex (by simp (disch := omega) only [go_sem, List.take, ↓reduceIte, reduceCtorEq, Nat.reduceEqDiff, iaddrA]; rfl) ⟨rfl, vcE.app (vcE.ext (f := 72) (caps := []) (ys := [encB.S s, .int .u8 c.toNat]) rfl rfl (ext_count (s := s) (c := c) (n := s.length) (by exact encB.S_src _ s)) ?_)⟩)
 rintro r hp' ⟨rfl, rfl⟩
 refine ⟨rfl, ?_⟩
 repeat' (first | refine vcE.seq ?_ | refine vcE.block ?_ | (refine vcE.condTrue ?_ ?_; first | rfl | (simp (disch := first | assumption | omega) only [go_sem, Nat.reduceEqDiff, ↓reduceIte, reduceCtorEq, Nat.reduceAdd, Nat.reduceLeDiff] <;> rfl)) | (refine vcE.condFalse ?_ ?_; first | rfl | (simp (disch := first | assumption | omega) only [go_sem, Nat.reduceEqDiff, ↓reduceIte, reduceCtorEq, Nat.reduceAdd, Nat.reduceLeDiff] <;> rfl)) | (refine vcE.condND _ rfl (fun hc => ?_) (fun hc => ?_) <;> try (exfalso; first | omega | contradiction)) | (refine vcE.condD _ rfl (fun hc => ?_) (fun hc => ?_) <;> try (exfalso; first | omega | contradiction)) | (refine vcE.condNB _ rfl (fun hc => ?_) (fun hc => ?_) <;> try (exfalso; first | omega | contradiction)) | (refine vcE.condB _ rfl (fun hc => ?_) (fun hc => ?_) <;> try (exfalso; first | omega | contradiction)) | (apply vcE.ex; (simp (disch := first | assumption | omega) only [go_sem, ↓reduceIte] <;> rfl)) | fail)
 exact ⟨_, rfl, rfl⟩
def G1 : Tab := ((G0.addR 42 (.cons .str .nil) fun p => .rd true (.int .i64 (checkG p.1))).addO 61 (.cons (.S encB) (.cons (.S encB) .nil)) fun p => match p.2.1 with
 | [c] => some (.rd true (.int .i64 (p.1.count c)))
 | _ => none).addO 62 (.cons (.S encB) (.cons .i64 .nil)) fun p => if p.1 = [63] ∧ 0 ≤ p.2.1 ∧ p.2.1 ≤ 300 then some (.rd true (encB.S (List.replicate p.2.1.toNat 63))) else none
theorem encB_rep (n : Nat) : encB.S (List.replicate n 63) = .fsl (List.replicate n (.int .u8 63)) n := by
 simp only [Enc.S, encB_cs, List.map_replicate, List.length_replicate]
 rfl
theorem G1_ok : TabOk Tryz.prog G1 := by
 refine TabOk.addO (TabOk.addO (TabOk.addR G0_ok ?_) ?_) ?_
 ·exact fun p => pCheck p.1
 ·intro p r h
  split at h
  ·rename_i c hc
   cases h
   have := pCount p.1 c
   show PCF _ _ [encB.S p.1, encB.S p.2.1] _
   rw [hc]
   exact this
  ·cases h
 ·intro p r h
  split at h
  ·rename_i hc
   obtain ⟨h1, h2, h3⟩ := hc
   cases h
   show PCF _ _ [encB.S p.1, .int .i64 p.2.1] _
   rw [h1, encB_rep]
   have := pRepeat p.2.1.toNat (by omega)
   rw [Int.toNat_of_nonneg h2] at this
   exact this
  ·cases h
theorem G1_check (p : List UInt8) : G1 42 [.str p] = some (.rd true (.int .i64 (checkG p))) := by
 rw [G1, Tab.addO_ne _ _ _ _ rfl, Tab.addO_ne _ _ _ _ rfl]
 exact Tab.addR_self _ _ (.cons .str .nil) _ (p, ())
theorem G1_count (s : List UInt8) (c : UInt8) : G1 61 [encB.S s, encB.S [c]] = some (.rd true (.int .i64 (s.count c))) := by
 rw [G1, Tab.addO_ne _ _ _ _ rfl]
 exact Tab.addO_self _ _ (.cons (.S encB) (.cons (.S encB) .nil)) _ (s, [c], ())
theorem G1_repeat (n : Nat) (h : n ≤ 300) : G1 62 [encB.S [63], .int .i64 n] = some (.rd true (encB.S (List.replicate n 63))) := by
 rw [G1]
 refine (Tab.addO_self _ _ (.cons (.S encB) (.cons .i64 .nil)) _ ([63], (n : Int), ())).trans ?_
 show (if ([63] : List UInt8) = [63] ∧ (0 : Int) ≤ n ∧ (n : Int) ≤ 300 then _ else _) = _
 rw [if_pos ⟨rfl, by omega, by omega⟩]
 simp
def wildB (c : UInt8) : Prop := c = 42 ∨ c = 63
theorem run_loop {p : List UInt8} (hl : p.length ≤ 4611686018427387904) {i : Nat} (hi : i < p.length) {tm : Env} {hp : HP} {n : Nat} (e0 : tm 0 = .str p) (e5 : tm 5 = .int .i64 i) (hint : Nat → Nat) : vcE Tryz.prog hint G1 n (IC.block 2 (IC.loop b43_0)) tm hp fun e tm' hp' => e = .normal ∧ hp' = hp ∧ tm' 0 = tm 0 ∧ tm' 3 = tm 3 ∧ tm' 4 = tm 4 ∧ ∃ r : Nat, tm' 5 = .int .i64 r ∧ i ≤ r ∧ r ≤ p.length ∧ (∀ k c, i ≤ k → k < r → p[k]? = some c → wildB c) ∧ ∀ c, p[r]? = some c → ¬ wildB c := by
 refine vcE.block (vcE.loop (by intro l tm hp h; simp at h) (fun m tm' hp' => hp' = hp ∧ tm' 0 = tm 0 ∧ tm' 3 = tm 3 ∧ tm' 4 = tm 4 ∧ ∃ r : Nat, tm' 5 = .int .i64 r ∧ i ≤ r ∧ r ≤ p.length ∧ (∀ k c, i ≤ k → k < r → p[k]? = some c → wildB c) ∧ m = p.length - r) (p.length - i) ⟨rfl, rfl, rfl, rfl, i, e5, Nat.le_refl _, by omega, fun k c h1 h2 => by omega, rfl⟩ ?_)
 rintro m tm' hp' ⟨rfl, h0, h3, h4, r, h5, hir, hrl, hw, rfl⟩
 rw [e0] at h0
 by_cases hr : r < p.length
 ·obtain ⟨c, hc⟩ : ∃ c, p[r]? = some c := ⟨_, List.getElem?_eq_getElem hr⟩
  have hstep : wildB c → ∀ k d, i ≤ k → k < r + 1 → p[k]? = some d → wildB d := fun hwc k d k1 k2 hd => by
   by_cases hk : k = r
   ·subst hk
    rw [hc] at hd
    cases hd
    exact hwc
   ·exact hw k d k1 (by omega) hd
  by_cases h42 : c.toNat = 42
  ·refine vcE.ex (by simp (disch := omega) only [go_sem, ↓reduceIte, h5, reduceCtorEq, h0, Nat.reduceEqDiff, hc, h42]; rfl) ?_
   refine ⟨_, by omega, rfl, ?_, ?_, ?_, r + 1, ?_, by omega, hr, hstep (.inl (UInt8.toNat_inj.1 h42)), rfl⟩
   all_goals simp only [upd_app, Nat.reduceEqDiff, ↓reduceIte, h0, h3, h4, e0]
   all_goals rfl
  ·by_cases h63 : c.toNat = 63
   ·refine vcE.ex (by simp (disch := omega) only [go_sem, ↓reduceIte, h5, reduceCtorEq, h0, Nat.reduceEqDiff, hc, h63]; rfl) ?_
    refine ⟨_, by omega, rfl, ?_, ?_, ?_, r + 1, ?_, by omega, hr, hstep (.inr (UInt8.toNat_inj.1 h63)), rfl⟩
    all_goals simp only [upd_app, Nat.reduceEqDiff, ↓reduceIte, h0, h3, h4, e0]
    all_goals rfl
   ·refine vcE.ex (by simp (disch := omega) only [go_sem, ↓reduceIte, h5, reduceCtorEq, h0, Nat.reduceEqDiff, hc]; rfl) ?_
    refine ⟨rfl, rfl, ?_, ?_, ?_, r, ?_, hir, hrl, hw, ?_⟩
    all_goals try simp only [upd_app, Nat.reduceEqDiff, ↓reduceIte, h0, h3, h4, h5, e0]
    rintro d hd (h | h)
    ·rw [hc] at hd; cases hd; exact h42 (by rw [h]; rfl)
    ·rw [hc] at hd; cases hd; exact h63 (by rw [h]; rfl)
 ·refine vcE.ex (by simp (disch := omega) only [go_sem, ↓reduceIte, h5, reduceCtorEq, h0, Nat.reduceEqDiff]; rfl) ?_
  refine ⟨rfl, rfl, ?_, ?_, ?_, r, ?_, hir, hrl, hw, fun d hd => ?_⟩
  all_goals try simp only [upd_app, Nat.reduceEqDiff, ↓reduceIte, h0, h3, h4, h5, e0]
  rw [List.getElem?_eq_none (by omega)] at hd
  cases hd
end
section
open Go Go.Proofs
theorem take_wild {p : List UInt8} {i r : Nat} (h : ∀ k c, i ≤ k → k < r → p[k]? = some c → wildB c) : ∀ c ∈ (p.drop i).take (r - i), c = 42 ∨ c = 63 := by
 intro c hc
 obtain ⟨k, hk, he⟩ := List.mem_iff_getElem.1 hc
 simp only [List.length_take, List.length_drop] at hk
 rw [List.getElem_take, List.getElem_drop] at he
 exact h (i + k) c (by omega) (by omega) (by rw [← he]; exact List.getElem?_eq_getElem (by omega))
theorem drop_split {p : List UInt8} {i r : Nat} (h1 : i ≤ r) : p.drop i = (p.drop i).take (r - i) ++ p.drop r := by
 conv => lhs; rw [← List.take_append_drop (r - i) (p.drop i)]
 rw [List.drop_drop, show i + (r - i) = r by omega]
theorem rest_plain {p : List UInt8} {r : Nat} (h : ∀ c, p[r]? = some c → ¬ wildB c) : p.drop r = [] ∨ ∃ c q, p.drop r = c :: q ∧ c ≠ 42 ∧ c ≠ 63 := by
 cases hc : p[r]? with
 | none => exact .inl (List.drop_eq_nil_iff.2 (List.getElem?_eq_none_iff.1 hc))
 | some c =>
  have := h c hc
  exact .inr ⟨c, _, drop_at hc, fun e => this (.inl e), fun e => this (.inr e)⟩
theorem norm_run {p : List UInt8} {i r : Nat} (h1 : i ≤ r) (hw : ∀ k c, i ≤ k → k < r → p[k]? = some c → wildB c) (he : ∀ c, p[r]? = some c → ¬ wildB c) :
  normS false (p.drop i) = List.replicate (((p.drop i).take (r - i)).count 63) 63 ++ ((if ((p.drop i).take (r - i)).count 63 < ((p.drop i).take (r - i)).length then [42] else []) ++ normS false (p.drop r)) := by
 have hwt := take_wild hw
 conv => lhs; rw [drop_split h1]
 rw [normS_wild _ _ _ hwt, normS_end _ _ (rest_plain he), Bool.false_or]
 congr 2
 by_cases h42 : 42 ∈ (p.drop i).take (r - i)
 ·rw [decide_eq_true h42, if_pos rfl, if_pos ((count_wild hwt).2 h42)]
 ·rw [decide_eq_false h42, if_neg (by simp), if_neg (fun h => h42 ((count_wild hwt).1 h))]
def NI (p : List UInt8) (i : Nat) (tm : Env) (hp : HP) : Prop :=
 ∃ id O, tm 0 = .str p ∧ tm 3 = bld id O.length 1 ∧ tm 4 = .int .i64 i ∧ BldAt encB hp id 5 O ∧ O ++ normS false (p.drop i) = normB p ∧ i ≤ p.length
theorem src_one {hp : HP} {e : TypeId} {c : UInt8} {ex : Bool} : srcA (hp ++ [some (.row e [.int .u8 c.toNat])]) 1 (.sl hp.length 0 1 1 1 ex) = some (encB.cs [c], 1) := by
 have := encB.sl_src (hp := hp ++ [some (.row e [.int .u8 c.toNat])]) (id := hp.length) (e := e) (l := [c]) (lo := 1) (ex := ex) (by simp; rfl)
 exact this
theorem frz_one {hp : HP} {e : TypeId} {c : UInt8} {ex : Bool} : frz (hp ++ [some (.row e [.int .u8 c.toNat])]) (.sl hp.length 0 1 1 1 ex) = some (encB.S [c]) := by
 have := encB.sl_frz (hp := hp ++ [some (.row e [.int .u8 c.toNat])]) (id := hp.length) (e := e) (l := [c]) (lo := 1) (ex := ex) (by simp; rfl)
 exact this
theorem conv_one {hp : HP} {e : TypeId} {cs : List AV} {n lo : Nat} {ex : Bool} : convA (hp ++ [some (.row e cs)]) (.sl hp.length 0 n 1 lo ex) = some (.sl hp.length 0 n 1 lo ex) := by
 simp [convA]
theorem frz_row {hp : HP} {e : TypeId} {w : List UInt8} {new : HP} : frz (hp ++ [some (.row e (encB.cs w))] ++ new) (.sl hp.length 0 w.length 1 w.length false) = some (encB.S w) :=
 encB.sl_frz (e := e) (l := w) (app_get (by simp))
theorem sslice_str {p : List UInt8} {i r : Nat} (h1 : i ≤ r) (h2 : r ≤ p.length) : sliceA 0 (.str p) (some (.int .i64 i)) (some (.int .i64 r)) none = some (.str ((p.drop i).take (r - i))) := by
 have e1 : (i : Int).toNat = i := rfl
 simp [sliceA, bndA, cutA]
 omega
theorem BldAt.any {α : Type} {E : Enc α} {hp : HP} {id : Nat} {e : TypeId} {l m : List α} (h : BldAt E hp id e l) {bytes : Nat} {x : AV} (hx : srcA hp E.sz x = some (E.cs m, m.length)) (hb : (l.length + m.length) * bytes ≤ 140737488355328) (hn : l.length + m.length ≤ 9223372036854775807) :
  ∃ id' hp', appA e E.sz bytes hp (bld id l.length E.sz) x = some (bld id' (l ++ m).length E.sz, hp') ∧ BldAt E hp' id' e (l ++ m) := by
 by_cases h0 : 0 < m.length
 ·exact ⟨_, _, h.more hx h0 hb hn, BldAt.moreAt E _ _ _ _ _⟩
 ·have := List.eq_nil_of_length_eq_zero (show m.length = 0 by omega)
  subst this
  rw [List.append_nil]
  exact ⟨id, hp, app_none hx, h⟩
theorem norm_round {p : List UInt8} (hl : p.length ≤ 300) {i : Nat} {tm : Env} {hp : HP} (h : NI p i tm hp) (hint : Nat → Nat) {n : Nat} (hi : i < p.length) : vcE Tryz.prog hint G1 n b43_1 tm hp fun e tm' hp' => e = .normal ∧ ∃ k, i < k ∧ NI p k tm' hp' := by
 obtain ⟨id, O, e0, e3, e4, hb, hO, hip⟩ := h
 have hOl : O.length ≤ 300 := by
  have := congrArg List.length hO
  have := normB_len p
  simp only [List.length_append] at *
  omega
 refine vcE.step (by simp (disch := omega) only [go_sem, ↓reduceIte, e4, reduceCtorEq, e0, Nat.reduceEqDiff]; rfl) (vcE.block (vcE.step (by simp (disch := omega) only [go_sem, ↓reduceIte, Nat.reduceEqDiff, e4]; rfl) (vcE.then _ (run_loop (by omega) hi (p := p) (i := i) (by simp only [upd_app, Nat.reduceEqDiff, ↓reduceIte, e0]) (by simp only [upd_app, Nat.reduceEqDiff, ↓reduceIte]) hint) ?_)))
 rintro e tm' hp' ⟨rfl, rfl, h0, h3, h4, r, h5, hir, hrl, hw, he⟩
 simp only [upd_app, Nat.reduceEqDiff, ↓reduceIte, e0, e3, e4] at h0 h3 h4
 by_cases hr : r = i
 ·subst hr
  obtain ⟨c, hc⟩ : ∃ c, p[r]? = some c := ⟨_, List.getElem?_eq_getElem hi⟩
  have happ := (hb.app [some (.row 5 [.int .u8 c.toNat])]).more (bytes := 1) (m := [c]) (src_one (ex := true)) (by simp) (by simp; omega) (by simp; omega)
  simp only [show encB.sz = 1 from rfl] at happ
  have hn : O ++ [c] ++ normS false (p.drop (r + 1)) = normB p := by
   rw [← hO, drop_at hc, normS_plain (fun e => he c hc (.inl e)) (fun e => he c hc (.inr e))]
   simp
  refine vcE.ex (by simp (disch := omega) only [go_sem, ↓reduceIte, h5, Nat.reduceEqDiff, h4, h3, reduceCtorEq, h0, hc, happ]; rfl) ?_
  refine ⟨rfl, r + 1, by omega, _, O ++ [c], ?_, ?_, ?_, BldAt.moreAt encB _ _ _ _ _, hn, hi⟩
  all_goals simp only [upd_app, Nat.reduceEqDiff, ↓reduceIte, h0]
  all_goals rfl
 ·have hlt : i < r := by omega
  have hwl : ((p.drop i).take (r - i)).length = r - i := by rw [List.length_take, List.length_drop]; omega
  have hsl := sslice_str hir hrl
  have hrun := norm_run hir hw he
  generalize hW : (p.drop i).take (r - i) = w at *
  have hcnt : w.count 63 ≤ w.length := List.count_le_length
  have hO' : O ++ List.replicate (w.count 63) 63 ++ ((if w.count 63 < w.length then [42] else []) ++ normS false (p.drop r)) = normB p := by
   rw [← hO, hrun]
   simp only [List.append_assoc]
  have hOl' : O.length + w.count 63 ≤ 300 := by
   have := congrArg List.length hO'
   have := normB_len p
   simp only [List.length_append, List.length_replicate] at *
   omega
  have hOl2 : w.count 63 < w.length → O.length + w.count 63 + 1 ≤ 300 := fun hc => by
   have := congrArg List.length hO'
   have := normB_len p
   simp only [List.length_append, List.length_replicate, if_pos hc, List.length_cons, List.length_nil] at *
   omega
  have hrep := G1_repeat (w.count 63) (by omega)
  have hcount := G1_count w 63
  have c63 : AV.int .u8 63 = .int .u8 (63 : UInt8).toNat := rfl
  refine vcE.step (by simp (disch := omega) only [go_sem, ↓reduceIte, h5, Nat.reduceEqDiff, h4]; rfl) ?_
  refine vcE.step (by simp (disch := omega) only [go_sem, ↓reduceIte, reduceCtorEq, h0, Nat.reduceEqDiff, h4, h5, hsl, s2b_encB, c63, conv_one, ↓frz_row, ↓frz_one, hcount]; rfl) ?_
  obtain ⟨id2, hp2, hap, hb2⟩ := ((hb.app [some (.row 5 (encB.cs w))]).app [some (.row 5 [.int .u8 (63 : UInt8).toNat])] |>.app [some (.row 5 [.int .u8 (63 : UInt8).toNat])]).any (bytes := 1) (m := List.replicate (w.count 63) 63) (x := encB.S (List.replicate (w.count 63) 63)) (encB.S_src _ _) (by simp; omega) (by simp; omega)
  simp only [show encB.sz = 1 from rfl] at hap
  refine vcE.step (by simp (disch := omega) only [go_sem, ↓reduceIte, Nat.reduceEqDiff, h3, c63, conv_one, ↓frz_one, hrep, hap]; rfl) ?_
  refine vcE.seq (vcE.seq (vcE.ex (by simp (disch := omega) only [go_sem, ↓reduceIte, Nat.reduceEqDiff, h5, h4]; rfl) ?_))
  refine vcE.condD (w.count 63 < w.length) ?_ (fun hc => ?_) (fun hc => ?_)
  ·simp only [evE, upd_app, Nat.reduceEqDiff, ↓reduceIte, hwl]
   congr 2
   exact propext (by omega)
  ·have hap2 := (hb2.app [some (.row 5 [.int .u8 (42 : UInt8).toNat])]).more (bytes := 1) (m := [42]) (src_one (ex := true)) (by simp) (by simp; omega) (by simp; omega)
   simp only [show encB.sz = 1 from rfl] at hap2
   have c42 : AV.int .u8 42 = .int .u8 (42 : UInt8).toNat := rfl
   refine vcE.ex (by simp (disch := omega) only [go_sem, ↓reduceIte, Nat.reduceEqDiff, c42, hap2]; rfl) ?_
   refine vcE.ex (by simp (disch := omega) only [go_sem, ↓reduceIte, Nat.reduceEqDiff, h5]; rfl) ?_
   refine ⟨rfl, r, hlt, _, _, ?_, ?_, ?_, BldAt.moreAt encB _ _ _ _ _, ?_, hrl⟩
   ·simp only [upd_app, Nat.reduceEqDiff, ↓reduceIte, h0]
   ·simp only [upd_app, Nat.reduceEqDiff, ↓reduceIte, h0]
   ·simp only [upd_app, Nat.reduceEqDiff, ↓reduceIte, h0, h5]
   ·rw [← hO', if_pos hc]
    simp only [List.append_assoc]
  ·refine vcE.ex (by simp (disch := omega) only [exC, dec_false]; rfl) ?_
   refine vcE.ex (by simp (disch := omega) only [go_sem, ↓reduceIte, Nat.reduceEqDiff, h5]; rfl) ?_
   refine ⟨rfl, r, hlt, id2, _, ?_, ?_, ?_, hb2, ?_, hrl⟩
   ·simp only [upd_app, Nat.reduceEqDiff, ↓reduceIte, h0]
   ·simp only [upd_app, Nat.reduceEqDiff, ↓reduceIte, h0]
   ·simp only [upd_app, Nat.reduceEqDiff, ↓reduceIte, h0, h5]
   ·rw [← hO', if_neg hc]
    simp only [List.nil_append]
theorem pNorm (p : List UInt8) (hl : p.length ≤ 300) : PCF Tryz.prog 43 [.str p] (.str (normB p)) := by
 refine pcf_e hmG G1_ok comp43 (by decide) (by simp) (nidL_ok rfl) ?_
 refine vcE.step (by simp only [go_sem, ↓reduceIte]; rfl) (vcE.step (by simp only [go_sem, ↓reduceIte]; rfl) (vcE.then (fun e tm hp => e = .normal ∧ ∃ id, tm 3 = bld id (normB p).length 1 ∧ BldAt encB hp id 5 (normB p)) ?_ ?_))
 ·refine vcE.step (by simp only [go_sem, ↓reduceIte]; rfl) (vcE.block (vcE.loop (by intro l tm hp h; simp at h) (fun m tm hp => ∃ i, NI p i tm hp ∧ m = p.length - i) p.length ⟨0, ⟨0, [], rfl, rfl, rfl, BldAt.nil _ _ _ _, rfl, Nat.zero_le _⟩, rfl⟩ ?_))
  rintro m tm hp ⟨i, hN, rfl⟩
  by_cases hi : i < p.length
  ·refine (norm_round hl hN _ hi).mono ?_
   rintro e tm' hp' ⟨rfl, k, hk, hN'⟩
   refine ⟨p.length - k, ?_, k, hN', rfl⟩
   have := hN'.choose_spec.choose_spec.2.2.2.2.2
   omega
  ·obtain ⟨id, O, e0, e3, e4, hb, hO, hip⟩ := hN
   obtain rfl : i = p.length := by omega
   rw [List.drop_length] at hO
   simp only [normS, Bool.false_eq_true, if_false, List.append_nil] at hO
   subst hO
   refine vcE.ex (by simp (disch := omega) only [go_sem, ↓reduceIte, e4, reduceCtorEq, e0, Nat.reduceEqDiff]; rfl) ?_
   refine ⟨rfl, id, ?_, hb⟩
   simp only [upd_app, Nat.reduceEqDiff, ↓reduceIte, e3]
 ·rintro e tm hp ⟨rfl, id, h3, hb⟩
  have hs := hb.src
  have hb2 : b2sA hp (bld id (normB p).length 1) = some (.str (normB p)) := by
   unfold b2sA
   rw [show (1 : Nat) = encB.sz from rfl, hs]
   simp only [unbyte_encB, Option.map_some]
   by_cases h0 : (normB p).length = 0
   ·rw [h0]; rfl
   ·rw [bld_pos (by omega)]
  refine vcE.ex (by simp only [go_sem, ↓reduceIte, h3, hb2]; rfl) ?_
  exact ⟨_, rfl, rfl⟩
end
end Go.Gi
