/- States: a row as a list. -/
/- The document's answers for globs and states: what they give. -/
/- The document's answers for states, and the law that they are the program's. -/
/- The document's answers for states: New. -/
import Derived.Test.YtakdhioafodhcaaGreatGiNfN
import Derived.Test.YtakdhioafodhcaaGreatGiON
set_option linter.unusedVariables false
set_option linter.unusedSimpArgs false
set_option linter.unusedSectionVars false

namespace Go.Gi
section
open Go Go.Proofs
theorem lst_eq (N : Nat) (b : Nat → Bool) : lst N b = ((List.range N).filter b).map fun (i : Nat) => (i : Int) := by
 unfold lst listB listTo
 rw [rowB_len]
 congr 1
 refine List.filter_congr fun i hi => ?_
 rw [rowB_get (List.mem_range.1 hi)]
 cases b i <;> simp
theorem lst_mem {N : Nat} {b : Nat → Bool} {v : Int} : v ∈ lst N b ↔ ∃ i : Nat, i < N ∧ b i = true ∧ v = i := by
 rw [lst_eq, List.mem_map]
 constructor
 ·rintro ⟨i, hi, rfl⟩
  rw [List.mem_filter, List.mem_range] at hi
  exact ⟨i, hi.1, hi.2, rfl⟩
 ·rintro ⟨i, h1, h2, rfl⟩
  exact ⟨i, List.mem_filter.2 ⟨List.mem_range.2 h1, h2⟩, rfl⟩
def inS (l : List Int) (j : Nat) : Bool := ofS l j
theorem inS_snoc (l : List Int) (n j : Nat) : inS (l ++ [(n : Int)]) j = (inS l j || decide (j = n)) := by
 simp only [inS, ofS]
 rw [Bool.eq_iff_iff]
 simp only [List.mem_append, List.mem_singleton, decide_eq_true_eq, Bool.or_eq_true]
 constructor
 ·rintro (h | h)
  ·exact .inl h
  ·exact .inr (by omega)
 ·rintro (h | h)
  ·exact .inl h
  ·exact .inr (by omega)
end
section
open Go Go.Proofs
theorem u8_eqN {c : UInt8} {n : Nat} (hn : n < 256) : c = UInt8.ofNat n ↔ (c.toNat : Int) = n := by
 constructor
 ·rintro rfl
  simp
  omega
 ·intro h
  apply UInt8.toNat_inj.1
  simp
  omega
theorem rCheck (p : List UInt8) : PCF Tryz.prog 54 [.str p] (.int .i64 (checkG p)) := by
 refine pcf_e hmG (TabOk.none _) comp54 (by decide) (by simp) (nidL_ok rfl) ?_
 unfold checkG
 repeat' (first | refine vcE.seq ?_ | refine vcE.block ?_ | (refine vcE.condTrue ?_ ?_; first | rfl | (simp (disch := first | assumption | omega) only [go_sem, Nat.reduceEqDiff, ↓reduceIte, reduceCtorEq, Nat.reduceAdd, Nat.reduceLeDiff] <;> rfl)) | (refine vcE.condFalse ?_ ?_; first | rfl | (simp (disch := first | assumption | omega) only [go_sem, Nat.reduceEqDiff, ↓reduceIte, reduceCtorEq, Nat.reduceAdd, Nat.reduceLeDiff] <;> rfl)) | (refine vcE.condND _ rfl (fun hc => ?_) (fun hc => ?_) <;> try (exfalso; first | omega | contradiction)) | (refine vcE.condD _ rfl (fun hc => ?_) (fun hc => ?_) <;> try (exfalso; first | omega | contradiction)) | (refine vcE.condNB _ rfl (fun hc => ?_) (fun hc => ?_) <;> try (exfalso; first | omega | contradiction)) | (refine vcE.condB _ rfl (fun hc => ?_) (fun hc => ?_) <;> try (exfalso; first | omega | contradiction)) | (apply vcE.ex; (simp (disch := first | assumption | omega) only [go_sem, ↓reduceIte, reduceCtorEq] <;> rfl)) | fail)
 all_goals refine ⟨_, rfl, ?_⟩
 all_goals simp (disch := omega) only [if_pos, if_neg, *]
 all_goals rfl
theorem rFold (s : List UInt8) (hl : s.length ≤ 4611686018427387904) : PCF Tryz.prog 56 [.str s] (.str (s.map foldB)) := by
 refine pcf_e hmG (TabOk.none _) comp56 (by decide) (by simp) (nidL_ok rfl) ?_
 refine vcE.step (by simp only [go_sem, ↓reduceIte]; rfl) (vcE.step (by simp only [go_sem, ↓reduceIte, reduceCtorEq, s2b_encB]; rfl) (vcE.then (fun e tm hp => e = .normal ∧ tm 3 = .sl 0 0 s.length 1 s.length false ∧ hp = [some (.row 5 (encB.cs (s.map foldB)))]) ?_ ?_))
 ·refine vcE.step (by simp only [go_sem, ↓reduceIte]; rfl) (vcE.block (vcE.count (by intro l tm hp h; simp at h)
   (fun i tm hp => tm 3 = .sl 0 0 s.length 1 s.length false ∧ tm 4 = .int .i64 i ∧ hp = [some (.row 5 (encB.cs (doneTo foldB s i)))]) s.length ⟨?_, ?_, ?_⟩ ?_ ?_))
  ·rfl
  ·rfl
  ·rw [doneTo_zero]
  ·rintro i tm hp hi ⟨e3, e4, rfl⟩
   obtain ⟨c, hc⟩ : ∃ c, s[i]? = some c := ⟨_, List.getElem?_eq_getElem hi⟩
   have hlen := doneTo_len foldB s i
   have hcl := c.toNat_lt
   have hld := encB.sl_load1 (hp := [some (.row 5 (encB.cs (doneTo foldB s i)))]) (id := 0) (e := 5) rfl rfl (doneTo_get (f := foldB) hc) (v := .int .u8 c.toNat) rfl rfl
   have hst := encB.sl_store1 (hp := [some (.row 5 (encB.cs (doneTo foldB s i)))]) (id := 0) (e := 5) (l := doneTo foldB s i) rfl rfl (i := i) (by omega) (b := foldB c) (v := .int .u8 (foldB c).toNat) rfl (by simp)
   rw [doneTo_set hc] at hst
   simp only [loadA, rowA, List.getElem?_cons_zero] at hld
   have hsame : foldB c = c → [some (Blk.row 5 (encB.cs (doneTo foldB s i)))] = [some (.row 5 (encB.cs (doneTo foldB s (i + 1))))] := fun h => by
    have := doneTo_set (f := foldB) hc
    rw [h] at this
    rw [← this]
    congr 4
    apply List.ext_getElem?
    intro j
    rw [List.getElem?_set]
    split
    ·rename_i hj; subst hj; rw [if_pos (by omega), doneTo_get hc]
    ·rfl
   by_cases h1 : 65 ≤ c.toNat
   ·by_cases h2 : c.toNat ≤ 90
    ·have hw : ((c.toNat : Int) + 32) = ((foldB c).toNat : Int) := by rw [foldB_up h1 h2]; rfl
     refine vcE.ex (by simp (disch := omega) only [go_sem, ↓reduceIte, e4, Nat.reduceEqDiff, e3, iaddr_sl1, ↓hld, hw, wrap_u8, ↓hst]; rfl) ?_
     refine ⟨?_, ?_, rfl⟩
     ·simp only [upd_app, Nat.reduceEqDiff, ↓reduceIte, e3]
     ·simp only [upd_app, Nat.reduceEqDiff, ↓reduceIte]; rfl
    ·refine vcE.ex (by simp (disch := omega) only [go_sem, ↓reduceIte, e4, Nat.reduceEqDiff, e3, iaddr_sl1, ↓hld]; rfl) ?_
     refine ⟨?_, ?_, hsame (foldB_lo (by omega))⟩
     ·simp only [upd_app, Nat.reduceEqDiff, ↓reduceIte, e3]
     ·simp only [upd_app, Nat.reduceEqDiff, ↓reduceIte]; rfl
   ·refine vcE.ex (by simp (disch := omega) only [go_sem, ↓reduceIte, e4, Nat.reduceEqDiff, e3, iaddr_sl1, ↓hld]; rfl) ?_
    refine ⟨?_, ?_, hsame (foldB_lo (by omega))⟩
    ·simp only [upd_app, Nat.reduceEqDiff, ↓reduceIte, e3]
    ·simp only [upd_app, Nat.reduceEqDiff, ↓reduceIte]; rfl
  ·rintro tm hp ⟨e3, e4, rfl⟩
   refine vcE.ex (by simp (disch := omega) only [go_sem, ↓reduceIte, e4, Nat.reduceEqDiff, e3]; rfl) ?_
   refine ⟨rfl, ?_, ?_⟩
   ·simp only [upd_app, Nat.reduceEqDiff, ↓reduceIte, e3]
   ·rw [doneTo_all]
 ·rintro e tm hp ⟨rfl, h3, rfl⟩
  have hs := encB.sl_src (hp := [some (.row 5 (encB.cs (s.map foldB)))]) (id := 0) (e := 5) (l := s.map foldB) (lo := s.length) (ex := false) rfl
  rw [List.length_map] at hs
  have hb : b2sA [some (.row 5 (encB.cs (s.map foldB)))] (.sl 0 0 s.length 1 s.length false) = some (.str (s.map foldB)) := by
   unfold b2sA
   rw [show (1 : Nat) = encB.sz from rfl, hs]
   simp only [unbyte_encB, Option.map_some]
  refine vcE.ex (by simp only [go_sem, ↓reduceIte, h3, hb]; rfl) ?_
  exact ⟨_, rfl, rfl⟩
instance (c : UInt8) : Decidable (wildB c) := inferInstanceAs (Decidable (_ ∨ _))
theorem rWild (c : UInt8) : PCF Tryz.prog 57 [.int .u8 c.toNat] (.bool (decide (wildB c))) := by
 refine pcf_e hmG (TabOk.none _) comp57 (by decide) (by simp) (nidL_ok rfl) ?_
 have h : ∀ n : Nat, n < 256 → (c = UInt8.ofNat n ↔ (c.toNat : Int) = n) := fun n hn => u8_eqN hn
 have e42 := h 42 (by omega)
 have e63 := h 63 (by omega)
 by_cases h42 : c.toNat = 42
 ·have : c = 42 := UInt8.toNat_inj.1 h42
  refine vcE.ex (by simp (disch := omega) only [go_sem, ↓reduceIte, h42, reduceCtorEq, Nat.reduceEqDiff]; rfl) ?_
  refine ⟨_, rfl, ?_⟩
  simp [wildB, this]
  rfl
 ·have h1 : c ≠ 42 := fun e => h42 (by rw [e]; rfl)
  by_cases h63 : c.toNat = 63
  ·have : c = 63 := UInt8.toNat_inj.1 h63
   refine vcE.ex (by simp (disch := omega) only [go_sem, ↓reduceIte, h63, reduceCtorEq, Nat.reduceEqDiff]; rfl) ?_
   refine ⟨_, rfl, ?_⟩
   simp [wildB, this]
   rfl
  ·have h2 : c ≠ 63 := fun e => h63 (by rw [e]; rfl)
   refine vcE.ex (by simp (disch := omega) only [go_sem, ↓reduceIte, reduceCtorEq, Nat.reduceEqDiff]; rfl) ?_
   refine ⟨_, rfl, ?_⟩
   simp [wildB, h1, h2]
   rfl
def J0 : Tab := (Tab.none.addR 57 (.cons .u8 .nil) fun p => .rd true (.bool (decide (wildB p.1)))).addO 56 (.cons .str .nil) fun p => if p.1.length ≤ 1000000 then some (.rd true (.str (p.1.map foldB))) else none
theorem J0_ok : TabOk Tryz.prog J0 := by
 refine TabOk.addO (TabOk.addR (TabOk.none _) ?_) ?_
 ·exact fun p => rWild p.1
 ·intro p r h
  split at h
  ·rename_i hv
   cases h
   exact rFold p.1 (by omega)
  ·cases h
theorem J0_wild (c : UInt8) : J0 57 [.int .u8 c.toNat] = some (.rd true (.bool (decide (wildB c)))) := by
 rw [J0, Tab.addO_ne _ _ _ _ rfl]
 exact Tab.addR_self _ _ (.cons .u8 .nil) _ (c, ())
theorem J0_fold (s : List UInt8) (h : s.length ≤ 1000000) : J0 56 [.str s] = some (.rd true (.str (s.map foldB))) := by
 refine (Tab.addO_self _ _ (.cons .str .nil) _ (s, ())).trans ?_
 rw [if_pos h]
theorem rNorm_star {hp : HP} {id : Nat} {O : List UInt8} (hb : BldAt encB hp id 5 O) (hO : O.length ≤ 1000000) : ∃ id' hp', appA 5 1 1 (hp ++ [some (.row 5 [.int .u8 42])]) (bld id O.length 1) (.sl hp.length 0 1 1 1 true) = some (bld id' (O ++ [42]).length 1, hp') ∧ BldAt encB hp' id' 5 (O ++ [42]) := by
 obtain ⟨id', hp', h1, h2⟩ := (hb.app [some (.row 5 [.int .u8 (42 : UInt8).toNat])]).any (bytes := 1) (m := [42]) (src_one (ex := true)) (by simp; omega) (by simp; omega)
 exact ⟨id', hp', h1, h2⟩
theorem rNorm (p : List UInt8) (hl : p.length ≤ 300) : PCF Tryz.prog 55 [.str p] (.str (normB p)) := by
 refine pcf_e hmG J0_ok comp55 (by decide) (by simp) (nidL_ok rfl) ?_
 refine vcE.step (by simp only [go_sem, ↓reduceIte]; rfl) (vcE.step (by simp only [go_sem, ↓reduceIte]; rfl) (vcE.step (by simp only [go_sem, ↓reduceIte]; rfl) (vcE.then (fun e tm hp => e = .normal ∧ ∃ id, tm 3 = bld id (normB p).length 1 ∧ BldAt encB hp id 5 (normB p)) ?_ ?_)))
 ·refine vcE.step (by simp only [go_sem, ↓reduceIte]; rfl) (vcE.block (vcE.loop (by intro l tm hp h; simp at h) (fun m tm hp => ∃ i b id O, m = p.length + 1 - i ∧ tm 0 = .str p ∧ tm 3 = bld id O.length 1 ∧ tm 4 = .bool b ∧ tm 5 = .int .i64 i ∧ BldAt encB hp id 5 O ∧ i ≤ p.length + 1 ∧ (i ≤ p.length → O ++ normS b (p.drop i) = normB p) ∧ (i = p.length + 1 → O = normB p)) (p.length + 1) ⟨0, false, 0, [], rfl, rfl, rfl, rfl, rfl, BldAt.nil _ _ _ _, by omega, fun _ => rfl, fun h => by omega⟩ ?_))
  rintro m tm hp ⟨i, b, id, O, rfl, e0, e3, e4, e5, hb, hip, hO0, hE⟩
  by_cases hi : i ≤ p.length
  ·have hO := hO0 hi
   clear hO0
   have hOl : O.length ≤ 300 := by
    have := congrArg List.length hO
    have := normB_len p
    simp only [List.length_append] at *
    omega
   refine vcE.step (by simp (disch := omega) only [go_sem, ↓reduceIte, e5, reduceCtorEq, e0, Nat.reduceEqDiff]; rfl) (vcE.seq ?_)
   -- whether a star is due, then the byte
   by_cases hlt : i < p.length
   ·obtain ⟨c, hc⟩ : ∃ c, p[i]? = some c := ⟨_, List.getElem?_eq_getElem hlt⟩
    rw [drop_at hc] at hO
    have hw := J0_wild c
    by_cases h42 : c = 42
    ·subst h42
     have hw' : J0 57 [.int .u8 ((42 : UInt8).toNat : Int)] = some (.rd true (.bool true)) := hw
     simp only [normS, if_true] at hO
     have hn42 : ((42 : UInt8).toNat : Int) = 42 := rfl
     rw [hn42] at hw'
     cases b
     ·refine vcE.block (vcE.ex (by simp (disch := omega) only [go_sem, ↓reduceIte, Nat.reduceEqDiff, e4, e5, reduceCtorEq, e0, hc, hn42]; rfl) ?_)
      refine vcE.ex (by simp (disch := omega) only [go_sem, ↓reduceIte, Nat.reduceEqDiff, e5]; rfl) ?_
      refine ⟨_, ?_, i + 1, true, id, O, rfl, ?_, ?_, ?_, ?_, hb, by omega, fun _ => hO, fun h => by omega⟩
      ·omega
      all_goals simp only [upd_app, Nat.reduceEqDiff, ↓reduceIte, e0, e3]
      rfl
     ·refine vcE.block (vcE.ex (by simp (disch := omega) only [go_sem, ↓reduceIte, Nat.reduceEqDiff, e4, e5, reduceCtorEq, e0, hc, hn42, hw']; rfl) ?_)
      refine vcE.ex (by simp (disch := omega) only [go_sem, ↓reduceIte, Nat.reduceEqDiff, e5]; rfl) ?_
      refine ⟨_, ?_, i + 1, true, id, O, rfl, ?_, ?_, ?_, ?_, hb, by omega, fun _ => hO, fun h => by omega⟩
      ·omega
      all_goals simp only [upd_app, Nat.reduceEqDiff, ↓reduceIte, e0, e3]
      rfl
    ·have hn42 : ¬ (c.toNat : Int) = 42 := fun h => h42 (u8_eqI.1 h)
     have happ := (hb.app [some (.row 5 [.int .u8 c.toNat])]).more (bytes := 1) (m := [c]) (src_one (ex := true)) (by simp) (by simp; omega) (by simp; omega)
     simp only [show encB.sz = 1 from rfl] at happ
     by_cases h63 : c = 63
     ·have hw' : J0 57 [.int .u8 c.toNat] = some (.rd true (.bool true)) := by rw [hw]; simp [wildB, h63]
      have hO2 : (O ++ [c]) ++ normS b (p.drop (i + 1)) = normB p := by
       rw [← hO, h63]
       simp only [normS, if_neg (show ¬ (63 : UInt8) = 42 by decide), if_true, List.append_assoc, List.cons_append, List.nil_append]
      cases b
      ·refine vcE.block (vcE.ex (by simp (disch := first | assumption | omega) only [go_sem, ↓reduceIte, Nat.reduceEqDiff, e4, e5, reduceCtorEq, e0, hc, e3, happ]; rfl) ?_)
       refine vcE.ex (by simp (disch := omega) only [go_sem, ↓reduceIte, Nat.reduceEqDiff, e5]; rfl) ?_
       refine ⟨_, ?_, i + 1, false, _, O ++ [c], rfl, ?_, ?_, ?_, ?_, BldAt.moreAt encB _ _ _ _ _, by omega, fun _ => hO2, fun h => by omega⟩
       ·omega
       all_goals simp only [upd_app, Nat.reduceEqDiff, ↓reduceIte, e0, e4]
       all_goals rfl
      ·refine vcE.block (vcE.ex (by simp (disch := first | assumption | omega) only [go_sem, ↓reduceIte, Nat.reduceEqDiff, e4, e5, reduceCtorEq, e0, hc, hw', e3, happ]; rfl) ?_)
       refine vcE.ex (by simp (disch := omega) only [go_sem, ↓reduceIte, Nat.reduceEqDiff, e5]; rfl) ?_
       refine ⟨_, ?_, i + 1, true, _, O ++ [c], rfl, ?_, ?_, ?_, ?_, BldAt.moreAt encB _ _ _ _ _, by omega, fun _ => hO2, fun h => by omega⟩
       ·omega
       all_goals simp only [upd_app, Nat.reduceEqDiff, ↓reduceIte, e0, e4]
       all_goals rfl
     ·have hw' : J0 57 [.int .u8 c.toNat] = some (.rd true (.bool false)) := by rw [hw]; simp [wildB, h63, h42]
      cases b
      ·have hO2 : (O ++ [c]) ++ normS false (p.drop (i + 1)) = normB p := by
        rw [← hO, normS_plain h42 h63]
        simp
       refine vcE.block (vcE.ex (by simp (disch := first | assumption | omega) only [go_sem, ↓reduceIte, Nat.reduceEqDiff, e4, e5, reduceCtorEq, e0, hc, e3, happ]; rfl) ?_)
       refine vcE.ex (by simp (disch := omega) only [go_sem, ↓reduceIte, Nat.reduceEqDiff, e5]; rfl) ?_
       refine ⟨_, ?_, i + 1, false, _, O ++ [c], rfl, ?_, ?_, ?_, ?_, BldAt.moreAt encB _ _ _ _ _, by omega, fun _ => hO2, fun h => by omega⟩
       ·omega
       all_goals simp only [upd_app, Nat.reduceEqDiff, ↓reduceIte, e0, e4]
       all_goals rfl
      ·obtain ⟨id1, hp1, a1, b1⟩ := rNorm_star hb (by omega)
       have a1l : (O ++ [42]).length ≤ 300 + 1 := by simp; omega
       have happ2 := (b1.app [some (.row 5 [.int .u8 c.toNat])]).more (bytes := 1) (m := [c]) (src_one (ex := true)) (by simp) (by simp; omega) (by simp; omega)
       simp only [show encB.sz = 1 from rfl] at happ2
       have hO2 : (O ++ [42] ++ [c]) ++ normS false (p.drop (i + 1)) = normB p := by
        rw [← hO, normS_plain h42 h63]
        simp
       refine vcE.block (vcE.ex (by simp (disch := first | assumption | omega) only [go_sem, ↓reduceIte, Nat.reduceEqDiff, e4, e5, reduceCtorEq, e0, hc, hw', e3, a1, happ2]; rfl) ?_)
       refine vcE.ex (by simp (disch := omega) only [go_sem, ↓reduceIte, Nat.reduceEqDiff, e5]; rfl) ?_
       refine ⟨_, ?_, i + 1, false, _, O ++ [42] ++ [c], rfl, ?_, ?_, ?_, ?_, BldAt.moreAt encB _ _ _ _ _, by omega, fun _ => hO2, fun h => by omega⟩
       ·omega
       all_goals simp only [upd_app, Nat.reduceEqDiff, ↓reduceIte, e0, e4]
       all_goals rfl
   ·obtain rfl : i = p.length := by omega
    rw [List.drop_length] at hO
    cases b
    ·simp only [normS, Bool.false_eq_true, if_false, List.append_nil] at hO
     refine vcE.block (vcE.ex (by simp (disch := first | assumption | omega) only [go_sem, ↓reduceIte, Nat.reduceEqDiff, e4, e5, reduceCtorEq, e0]; rfl) ?_)
     refine vcE.ex (by simp (disch := omega) only [go_sem, ↓reduceIte, Nat.reduceEqDiff, e5]; rfl) ?_
     refine ⟨_, ?_, p.length + 1, false, id, O, rfl, ?_, ?_, ?_, ?_, hb, by omega, fun h => by omega, fun _ => hO⟩
     ·omega
     all_goals simp only [upd_app, Nat.reduceEqDiff, ↓reduceIte, e0, e3, e4]
     rfl
    ·simp only [normS, if_true] at hO
     obtain ⟨id1, hp1, a1, b1⟩ := rNorm_star hb (by omega)
     refine vcE.block (vcE.ex (by simp (disch := first | assumption | omega) only [go_sem, ↓reduceIte, Nat.reduceEqDiff, e4, e5, reduceCtorEq, e0, e3, a1]; rfl) ?_)
     refine vcE.ex (by simp (disch := omega) only [go_sem, ↓reduceIte, Nat.reduceEqDiff, e5]; rfl) ?_
     refine ⟨_, ?_, p.length + 1, false, id1, O ++ [42], rfl, ?_, ?_, ?_, ?_, b1, by omega, fun h => by omega, fun _ => hO⟩
     ·omega
     all_goals simp only [upd_app, Nat.reduceEqDiff, ↓reduceIte, e0]
     rfl
  ·obtain rfl : i = p.length + 1 := by omega
   have := hE rfl
   subst this
   refine vcE.ex (by simp (disch := omega) only [go_sem, ↓reduceIte, e5, reduceCtorEq, e0, Nat.reduceEqDiff]; rfl) ?_
   refine ⟨rfl, id, ?_, hb⟩
   simp only [upd_app, Nat.reduceEqDiff, ↓reduceIte, e3]
 ·rintro e tm hp ⟨rfl, id, h3, hb⟩
  have hs := hb.src
  have hb2 : b2sA hp (bld id (normB p).length 1) = some (.str (normB p)) := by
   unfold b2sA
   rw [show (1 : Nat) = encB.sz from rfl, hs]
   simp only [unbyte_encB, Option.map_some]
   by_cases h0 : (normB p).length = 0
   ·rw [h0]; rfl
   ·rw [bld_pos (by omega)]
  refine vcE.ex (by simp only [go_sem, ↓reduceIte, h3, hb2]; rfl) ?_
  exact ⟨_, rfl, rfl⟩
end
section
open Go Go.Proofs
theorem rSame (p : List UInt8) (f : Bool) (a c : UInt8) : PCF Tryz.prog 59 [nP p f, .int .u8 a.toNat, .int .u8 c.toNat] (.bool (sameB f a c)) := by
 refine pcf_e hmG J0_ok comp59 (by decide) (by simp) (nidL_ok rfl) ?_
 have ha := J0_fold [a] (by simp)
 have hc := J0_fold [c] (by simp)
 by_cases h : a = c
 ·subst h
  refine vcE.ex (by simp (disch := first | assumption | omega) only [go_sem, ↓reduceIte, nP, Nat.reduceEqDiff, b2s_one]; rfl) ?_
  refine ⟨_, rfl, ?_⟩
  have : sameB f a a = true := by cases f <;> simp [sameB]
  rw [this]
  rfl
 ·have h' : ¬ ([a] = [c]) := by simpa using h
  cases f
  ·refine vcE.ex (by simp (disch := first | assumption | omega) only [go_sem, ↓reduceIte, nP, Nat.reduceEqDiff, b2s_one, reduceCtorEq, nilchkA]; rfl) ?_
   refine ⟨_, rfl, ?_⟩
   simp [sameB, h]
   rfl
  ·refine vcE.ex (by simp (disch := first | assumption | omega) only [go_sem, ↓reduceIte, nP, Nat.reduceEqDiff, b2s_one, reduceCtorEq, nilchkA, ha, List.map_cons, List.map_nil, hc]; rfl) ?_
   refine ⟨_, rfl, ?_⟩
   have : (decide ([foldB a] = [foldB c])) = decide (foldB a = foldB c) := by simp
   simp only [upd_app, Nat.reduceEqDiff, ↓reduceIte, fresh_bool, sameB, this]
def rI (p : List UInt8) (b : Nat → Bool) (i j : Nat) : Bool := if j ≤ i then clo p b j else b j
theorem rI_zero (p : List UInt8) (b : Nat → Bool) : rI p b 0 = b := by
 funext j
 unfold rI
 split
 ·rename_i h
  obtain rfl : j = 0 := by omega
  rfl
 ·rfl
theorem rI_at (p : List UInt8) (b : Nat → Bool) (i : Nat) : rI p b i i = clo p b i := by simp [rI]
theorem rI_step {p : List UInt8} {b : Nat → Bool} {i : Nat} (h : (clo p b i && isStar p i) = true) : (fun j => rI p b i j || decide (j = i + 1)) = rI p b (i + 1) := by
 funext j
 unfold rI
 by_cases h1 : j ≤ i
 ·rw [if_pos h1, if_pos (by omega)]
  simp
  omega
 ·rw [if_neg h1]
  by_cases h2 : j = i + 1
  ·subst h2
   rw [if_pos (Nat.le_refl _)]
   simp [clo, h]
  ·rw [if_neg (by omega)]
   simp [h2]
theorem rI_keep {p : List UInt8} {b : Nat → Bool} {i : Nat} (h : (clo p b i && isStar p i) = false) : rI p b (i + 1) = rI p b i := by
 funext j
 unfold rI
 by_cases h1 : j ≤ i
 ·rw [if_pos h1, if_pos (by omega)]
 ·rw [if_neg h1]
  by_cases h2 : j = i + 1
  ·subst h2
   rw [if_pos (Nat.le_refl _)]
   simp [clo, h]
  ·rw [if_neg (by omega)]
theorem rOn (p : List UInt8) (f : Bool) (hl : p.length ≤ 100000) {hp : HP} {id : Nat} {b : Nat → Bool} {lo : Nat} {ex : Bool} (h : hp[id]? = some (rowBlk (p.length + 1) b)) :
  ACalls Tryz.prog 58 [nP p f, .sl id 0 (p.length + 1) 1 lo ex] hp fun r hp' => ∃ oid, r = bld oid (lst (p.length + 1) (clo p b)).length 1 ∧ BldAt encI hp' oid 3 (lst (p.length + 1) (clo p b)) := by
 have hidl := get_lt h
 refine calls_e hmG (TabOk.none _) comp58 (by decide) (by simp) ?_
 have hfull : rowB (p.length + 1) (rI p b (p.length + 1)) = rowB (p.length + 1) (clo p b) := rowB_congr fun j hj => by simp [rI]; intro h; omega
 refine vcE.step (by simp only [go_sem, ↓reduceIte]; rfl) (vcE.step (by simp only [go_sem, ↓reduceIte]; rfl) (vcE.then (fun e tm hp' => e = .normal ∧ ∃ oid, tm 5 = bld oid (lst (p.length + 1) (clo p b)).length 1 ∧ BldAt encI hp' oid 3 (lst (p.length + 1) (clo p b))) ?_ ?_))
 ·refine vcE.step (by simp only [go_sem, ↓reduceIte]; rfl) (vcE.block (vcE.count (by intro l tm hp h; simp at h) (fun i tm hp' => ∃ oid, tm 0 = nP p f ∧ tm 1 = .sl id 0 (p.length + 1) 1 lo ex ∧ tm 6 = .int .i64 i ∧ tm 5 = bld oid (listTo (rowB (p.length + 1) (clo p b)) i).length 1 ∧ hp'[id]? = some (rowBlk (p.length + 1) (rI p b i)) ∧ BldAt encI hp' oid 3 (listTo (rowB (p.length + 1) (clo p b)) i) ∧ ((listTo (rowB (p.length + 1) (clo p b)) i).length = 0 ∨ id ≠ oid)) (p.length + 1) ⟨0, ?_, ?_, ?_, ?_, ?_, BldAt.nil _ _ _ _, .inl rfl⟩ ?_ ?_))
  ·rfl
  ·rfl
  ·rfl
  ·rfl
  ·rw [rI_zero]; exact h
  ·rintro i tm hp' hi ⟨oid, e0, e1, e6, e5, hrow, hb, hne⟩
   have hlen := listTo_len (rowB (p.length + 1) (clo p b)) i
   have hrow' : hp'[id]? = some (some (.row 4 (encT.cs (rowB (p.length + 1) (rI p b i))))) := hrow
   have hpick := encT.pick1 (l := rowB (p.length + 1) (rI p b i)) rfl (rowB_get hi) (v := .bool (rI p b i i)) rfl rfl
   rw [rI_at] at hpick
   have hget : (rowB (p.length + 1) (clo p b))[i]? = some (clo p b i) := rowB_get hi
   cases hc : clo p b i
   ·rw [hc] at hpick hget
    have hk := rI_keep (p := p) (b := b) (i := i) (by rw [hc]; rfl)
    have hidc : ((p.length + 1 : Nat) : Int) = (p.length : Int) + 1 := rfl
    refine vcE.ex (by simp (disch := omega) only [go_sem, ↓reduceIte, e6, Nat.reduceEqDiff, e1, iaddr_sl1, hrow', ↓hpick]; rfl) ?_
    refine ⟨oid, ?_, ?_, ?_, ?_, ?_, ?_, ?_⟩
    ·simp only [upd_app, Nat.reduceEqDiff, ↓reduceIte, e0]
    ·simp only [upd_app, Nat.reduceEqDiff, ↓reduceIte, e1]
    ·simp only [upd_app, Nat.reduceEqDiff, ↓reduceIte]; rfl
    ·simp only [upd_app, Nat.reduceEqDiff, ↓reduceIte, e5, listTo_no hget]
    ·rw [hk]; exact hrow
    ·rw [listTo_no hget]; exact hb
    ·rw [listTo_no hget]; exact hne
   ·rw [hc] at hpick hget
    have hL := listTo_one hget
    have happ := (hb.app [some (.row 3 [.int .i64 (i : Int)])]).more (bytes := 8) (m := [(i : Int)]) (src_int (ex := true)) (by simp) (by simp; omega) (by simp; omega)
    simp only [show encI.sz = 1 from rfl] at happ
    have hat := BldAt.moreAt encI (hp' ++ [some (.row 3 [.int .i64 (i : Int)])]) oid (listTo (rowB (p.length + 1) (clo p b)) i).length 3 (listTo (rowB (p.length + 1) (clo p b)) i ++ [(i : Int)])
    have hnew : (hp' ++ [some (Blk.row 3 [.int .i64 (i : Int)])]).length ≠ id := by
     have := get_lt hrow
     simp
     omega
    have hrow2 := bldH_other (b := .row 3 (encI.cs (listTo (rowB (p.length + 1) (clo p b)) i ++ [(i : Int)]))) (app_get (new := [some (.row 3 [.int .i64 (i : Int)])]) hrow) hne
    generalize hH : bldH (hp' ++ [some (Blk.row 3 [.int .i64 (i : Int)])]) oid (listTo (rowB (p.length + 1) (clo p b)) i).length (.row 3 (encI.cs (listTo (rowB (p.length + 1) (clo p b)) i ++ [(i : Int)]))) = H at *
    have stay : rI p b (i + 1) = rI p b i → ∀ tm' : Env, tm' 0 = nP p f → tm' 1 = .sl id 0 (p.length + 1) 1 lo ex → tm' 6 = .int .i64 ((i + 1 : Nat) : Int) → tm' 5 = bld (hp' ++ [some (Blk.row 3 [.int .i64 (i : Int)])]).length (listTo (rowB (p.length + 1) (clo p b)) i ++ [(i : Int)]).length 1 → ∃ oid, tm' 0 = nP p f ∧ tm' 1 = .sl id 0 (p.length + 1) 1 lo ex ∧ tm' 6 = .int .i64 ((i + 1 : Nat) : Int) ∧ tm' 5 = bld oid (listTo (rowB (p.length + 1) (clo p b)) (i + 1)).length 1 ∧ H[id]? = some (rowBlk (p.length + 1) (rI p b (i + 1))) ∧ BldAt encI H oid 3 (listTo (rowB (p.length + 1) (clo p b)) (i + 1)) ∧ ((listTo (rowB (p.length + 1) (clo p b)) (i + 1)).length = 0 ∨ id ≠ oid) := fun hk tm' k0 k1 k6 k5 =>
     ⟨_, k0, k1, k6, by rw [hL]; exact k5, by rw [hk]; exact hrow2, by rw [hL]; exact hat, .inr (fun e => hnew e.symm)⟩
    by_cases hil : i < p.length
    ·obtain ⟨a, ha⟩ : ∃ a, p[i]? = some a := ⟨_, List.getElem?_eq_getElem hil⟩
     by_cases h42 : a.toNat = 42
     ·have hs : (clo p b i && isStar p i) = true := by
       rw [hc]
       simp only [isStar, ha, Bool.true_and, decide_eq_true_eq, Option.some.injEq]
       exact UInt8.toNat_inj.1 h42
      have hk := rI_step hs
      have hst := rowBlk_store hrow2 (show i + 1 < p.length + 1 by omega)
      rw [hk] at hst
      have hi1 : ((i : Int) + 1) = ((i + 1 : Nat) : Int) := rfl
      refine vcE.ex (by simp (disch := omega) only [go_sem, ↓reduceIte, e6, Nat.reduceEqDiff, e1, iaddr_sl1, hrow', ↓hpick, e5, happ, reduceCtorEq, e0, nP, nilchkA, ha, h42, hi1, ↓hst]; rfl) ?_
      refine ⟨(hp' ++ [some (Blk.row 3 [.int .i64 (i : Int)])]).length, ?_, ?_, ?_, ?_, set_get hrow2, ?_, .inr (fun e => hnew e.symm)⟩
      ·simp only [upd_app, Nat.reduceEqDiff, ↓reduceIte, e0, nP]
      ·simp only [upd_app, Nat.reduceEqDiff, ↓reduceIte, e1]
      ·simp only [upd_app, Nat.reduceEqDiff, ↓reduceIte]
      ·simp only [upd_app, Nat.reduceEqDiff, ↓reduceIte, hL]
      ·rw [hL]
       rcases hat with hat | hat
       ·simp at hat
       ·exact .inr (by rw [set_get_ne (fun e => hnew e.symm)]; exact hat)
     ·have hs : (clo p b i && isStar p i) = false := by
       have : isStar p i = false := by
        simp only [isStar, ha, decide_eq_false_iff_not, Option.some.injEq]
        rintro rfl
        exact h42 rfl
       rw [this, Bool.and_false]
      refine vcE.ex (by simp (disch := omega) only [go_sem, ↓reduceIte, e6, Nat.reduceEqDiff, e1, iaddr_sl1, hrow', ↓hpick, e5, happ, reduceCtorEq, e0, nP, nilchkA, ha]; rfl) ?_
      refine stay (rI_keep hs) _ ?_ ?_ ?_ ?_
      ·simp only [upd_app, Nat.reduceEqDiff, ↓reduceIte, e0, nP]
      ·simp only [upd_app, Nat.reduceEqDiff, ↓reduceIte, e1]
      ·simp only [upd_app, Nat.reduceEqDiff, ↓reduceIte]; rfl
      ·simp only [upd_app, Nat.reduceEqDiff, ↓reduceIte]
    ·have hs : (clo p b i && isStar p i) = false := by
      have : isStar p i = false := by
       simp only [isStar, List.getElem?_eq_none (show p.length ≤ i by omega), decide_eq_false_iff_not]
       simp
      rw [this, Bool.and_false]
     refine vcE.ex (by simp (disch := omega) only [go_sem, ↓reduceIte, e6, Nat.reduceEqDiff, e1, iaddr_sl1, hrow', ↓hpick, e5, happ, reduceCtorEq, e0, nP, nilchkA]; rfl) ?_
     refine stay (rI_keep hs) _ ?_ ?_ ?_ ?_
     ·simp only [upd_app, Nat.reduceEqDiff, ↓reduceIte, e0, nP]
     ·simp only [upd_app, Nat.reduceEqDiff, ↓reduceIte, e1]
     ·simp only [upd_app, Nat.reduceEqDiff, ↓reduceIte]; rfl
     ·simp only [upd_app, Nat.reduceEqDiff, ↓reduceIte]
  ·rintro tm hp' ⟨oid, e0, e1, e6, e5, hrow, hb, hne⟩
   refine vcE.ex (by simp (disch := omega) only [go_sem, ↓reduceIte, e6, Nat.reduceEqDiff, e1]; rfl) ?_
   refine ⟨rfl, oid, ?_, ?_⟩
   ·simp only [upd_app, Nat.reduceEqDiff, ↓reduceIte, e5]
    unfold lst listB
    rw [rowB_len]
   ·unfold lst listB
    rw [rowB_len]
    exact hb
 ·rintro e tm hp' ⟨rfl, oid, e5, hb⟩
  refine vcE.ex (by simp (disch := omega) only [go_sem, ↓reduceIte, e5]; rfl) ?_
  exact ⟨_, rfl, oid, rfl, hb⟩
theorem rStart (p : List UInt8) (f : Bool) (hl : p.length ≤ 100000) : PCF Tryz.prog 27 [nP p f] (encI.S (lst (p.length + 1) (startS p))) := by
 refine pcf_e hmG (TabOk.none _) comp27 (by decide) (by simp) (nidL_ok rfl) ?_
 have hc : ((p.length : Int) + 1) = ((p.length + 1 : Nat) : Int) := rfl
 have hst := rowBlk_store (hp := [rowBlk (p.length + 1) fun _ => false]) (id := 0) (N := p.length + 1) (i := 0) rfl (by omega)
 refine vcE.step (by simp only [go_sem, ↓reduceIte]; rfl) (vcE.step (by simp (disch := omega) only [go_sem, ↓reduceIte, nP, reduceCtorEq, nilchkA, hc, make_row]; rfl) (vcE.step (by simp (disch := omega) only [go_sem, ↓reduceIte, show (0 : Int) = ((0 : Nat) : Int) from rfl, iaddr_sl1, ↓hst]; rfl) (vcE.seq ?_)))
 rw [show r27_3 = r27_3.take 2 ++ ((r27_3.drop 2).take 1 ++ r27_3.drop 3) from rfl]
 refine vcE.app (vcE.ex (by simp (disch := omega) only [go_sem, ↓reduceIte, reduceCtorEq, Nat.reduceEqDiff]; rfl) ⟨rfl, vcE.app (vcE.call (f := 58) (caps := []) (ys := [nP p f, .sl 0 0 (p.length + 1) 1 (p.length + 1) true]) rfl rfl (rOn p f hl (hp := [rowBlk (p.length + 1) fun j => false || decide (j = 0)]) (id := 0) (b := fun j => false || decide (j = 0)) rfl) ?_)⟩)
 rintro r hp' ⟨oid, rfl, hb⟩
 refine ⟨rfl, vcE.ex (by simp (disch := omega) only [go_sem, ↓reduceIte]; rfl) ?_⟩
 refine vcE.ex (by simp only [exC]; rfl) ?_
 have e : clo p (fun j => false || decide (j = 0)) = startS p := by
  unfold startS
  congr 1
 rw [e] at hb
 refine ⟨_, rfl, ?_⟩
 simp only [e]
 exact hb.fresh
def leadTo (s : UInt8 → UInt8 → Bool) (p : List UInt8) (c : UInt8) (l : List Int) : Nat → Bool := leads s p (ofS l) c
theorem leadTo_snoc {s : UInt8 → UInt8 → Bool} {p : List UInt8} {c : UInt8} {l : List Int} {k : Nat} {a : UInt8} (ha : p[k]? = some a) (j : Nat) :
  leadTo s p c (l ++ [(k : Int)]) j = (leadTo s p c l j || (if a = 42 then decide (j = k) else (takes s p k c && decide (j = k + 1)))) := by
 have ho : ∀ i, ofS (l ++ [(k : Int)]) i = (ofS l i || decide (i = k)) := fun i => inS_snoc l k i
 unfold leadTo
 by_cases h42 : a = 42
 ·subst h42
  rw [if_pos rfl]
  have hs : isStar p k = true := by simp [isStar, ha]
  have ht : takes s p k c = false := by simp [takes, ha]
  cases j with
  | zero =>
   simp only [leads, ho]
   by_cases hk : 0 = k
   ·subst hk; rw [hs]; simp
   ·simp [hk]
  | succ j =>
   simp only [leads, ho]
   by_cases hk : j + 1 = k
   ·subst hk
    rw [hs]
    have : decide (j = j + 1) = false := by simp
    simp [this]
   ·by_cases hk2 : j = k
    ·subst hk2
     rw [ht]
     simp
    ·simp [hk, hk2]
 ·rw [if_neg h42]
  have hs : isStar p k = false := by simp [isStar, ha, h42]
  cases j with
  | zero =>
   simp only [leads, ho]
   by_cases hk : 0 = k
   ·subst hk; rw [hs]; simp
   ·simp [hk]
  | succ j =>
   simp only [leads, ho]
   by_cases hk : j + 1 = k
   ·subst hk
    rw [hs]
    have h1 : decide (j = j + 1) = false := by simp
    have h2 : decide (j + 1 = j + 1 + 1) = false := by simp
    simp [h1, h2]
   ·by_cases hk2 : j = k
    ·subst hk2
     have h1 : decide (j + 1 = j) = false := by simp
     simp only [h1, Bool.or_false, decide_true, Bool.or_true, Bool.true_and, Bool.and_true]
     cases isStar p (j + 1) <;> cases ofS l (j + 1) <;> cases ofS l j <;> cases takes s p j c <;> rfl
    ·have h1 : decide (j + 1 = k) = false := by simpa using hk
     have h2 : decide (j = k) = false := by simpa using hk2
     have h3 : decide (j + 1 = k + 1) = false := by simpa using hk2
     simp [h1, h2, h3]
theorem leadTo_out {s : UInt8 → UInt8 → Bool} {p : List UInt8} {c : UInt8} {l : List Int} {v : Int} (hv : v < 0 ∨ (p.length : Int) ≤ v) {j : Nat} (hj : j < p.length + 1) : leadTo s p c (l ++ [v]) j = leadTo s p c l j := by
 have ho : ∀ i, i < p.length → ofS (l ++ [v]) i = ofS l i := fun i hi => by
  simp only [ofS]
  congr 1
  apply propext
  simp only [List.mem_append, List.mem_singleton]
  constructor
  ·rintro (h | h)
   ·exact h
   ·omega
  ·exact .inl
 have hst : ∀ i, ¬ i < p.length → isStar p i = false := fun i hi => by simp [isStar, List.getElem?_eq_none (show p.length ≤ i by omega)]
 unfold leadTo
 cases j with
 | zero =>
  simp only [leads]
  by_cases h0 : 0 < p.length
  ·rw [ho 0 h0]
  ·rw [hst 0 h0]; simp
 | succ j =>
  simp only [leads]
  rw [ho j (by omega)]
  by_cases h0 : j + 1 < p.length
  ·rw [ho _ h0]
  ·rw [hst _ h0]; simp
def J1 : Tab := J0.addO 59 (.cons .nfa (.cons .u8 (.cons .u8 .nil))) fun p => match p.1 with
 | some (_, f) => some (.rd true (.bool (sameB f p.2.1 p.2.2.1)))
 | none => none
theorem J1_ok : TabOk Tryz.prog J1 := by
 refine TabOk.addO J0_ok ?_
 intro p r h
 split at h
 ·rename_i q f hq
  cases h
  show PCF _ _ [nV p.1, _, _] _
  rw [hq]
  exact rSame q f p.2.1 p.2.2.1
 ·cases h
theorem J1_same (p : List UInt8) (f : Bool) (a c : UInt8) : J1 59 [nP p f, .int .u8 a.toNat, .int .u8 c.toNat] = some (.rd true (.bool (sameB f a c))) :=
 Tab.addO_self _ _ (.cons .nfa (.cons .u8 (.cons .u8 .nil))) _ (some (p, f), a, c, ())
theorem rStep (p : List UInt8) (f : Bool) (hl : p.length ≤ 100000) (l : List Int) (hll : l.length ≤ 1000000) (c : UInt8) : PCF Tryz.prog 28 [nP p f, encI.S l, .int .u8 c.toNat] (encI.S (lst (p.length + 1) (stepS (sameB f) p (ofS l) c))) := by
 refine pcf_e hmG J1_ok comp28 (by decide) (by simp) (nidL_ok (by simp only [nidL, Enc.S_nid, nP_nid, nid_int, Bool.and_self])) ?_
 have hc1 : ((p.length : Int) + 1) = ((p.length + 1 : Nat) : Int) := rfl
 have hfz : ∀ hp, frz hp (nP p f) = some (nP p f) := fun _ => rfl
 refine vcE.step (by simp only [go_sem, ↓reduceIte]; rfl) (vcE.step (by simp (disch := omega) only [go_sem, ↓reduceIte, nP, reduceCtorEq, nilchkA, hc1, make_row]; rfl) (vcE.then (fun e tm hp => e = .normal ∧ tm 0 = nP p f ∧ tm 7 = .sl 0 0 (p.length + 1) 1 (p.length + 1) true ∧ hp = [rowBlk (p.length + 1) (leads (sameB f) p (ofS l) c)]) ?_ ?_))
 ·refine vcE.step (by simp only [go_sem, ↓reduceIte]; rfl) (vcE.block (vcE.count (by intro l tm hp h; simp at h)
   (fun i tm hp => tm 0 = nP p f ∧ tm 1 = encI.S l ∧ tm 2 = .int .u8 c.toNat ∧ tm 7 = .sl 0 0 (p.length + 1) 1 (p.length + 1) true ∧ tm 8 = .int .i64 i ∧ hp = [rowBlk (p.length + 1) (leadTo (sameB f) p c (l.take i))]) l.length ⟨?_, ?_, ?_, ?_, ?_, ?_⟩ ?_ ?_))
  ·rfl
  ·rfl
  ·rfl
  ·rfl
  ·rfl
  ·exact congrArg (fun b => [b]) (rowBlk_congr fun j _ => by cases j <;> simp [leadTo, leads, ofS])
  ·rintro i tm hp hi ⟨e0, e1, e2, e7, e8, rfl⟩
   obtain ⟨v, hv⟩ : ∃ v, l[i]? = some v := ⟨_, List.getElem?_eq_getElem hi⟩
   have hia := encI_iaddr hi (k := .i64)
   have hp1 := encI.pick1 (l := l) rfl hv (v := .int .i64 v) rfl rfl
   have htk : l.take (i + 1) = l.take i ++ [v] := by rw [List.take_add_one, hv]; rfl
   have out : (v < 0 ∨ (p.length : Int) ≤ v) → [rowBlk (p.length + 1) (leadTo (sameB f) p c (l.take i))] = [rowBlk (p.length + 1) (leadTo (sameB f) p c (l.take (i + 1)))] := fun h =>
    congrArg (fun b => [b]) (rowBlk_congr fun j hj => by rw [htk, leadTo_out h hj])
   have fin : ∀ tm' : Env, tm' 0 = nP p f → tm' 1 = encI.S l → tm' 2 = .int .u8 c.toNat → tm' 7 = .sl 0 0 (p.length + 1) 1 (p.length + 1) true → tm' 8 = .int .i64 ((i + 1 : Nat) : Int) → ∀ hp', hp' = [rowBlk (p.length + 1) (leadTo (sameB f) p c (l.take (i + 1)))] → tm' 0 = nP p f ∧ tm' 1 = encI.S l ∧ tm' 2 = .int .u8 c.toNat ∧ tm' 7 = .sl 0 0 (p.length + 1) 1 (p.length + 1) true ∧ tm' 8 = .int .i64 ((i + 1 : Nat) : Int) ∧ hp' = [rowBlk (p.length + 1) (leadTo (sameB f) p c (l.take (i + 1)))] := fun tm' a b c d e hp' g => ⟨a, b, c, d, e, g⟩
   by_cases hv0 : v < 0
   ·refine vcE.ex (by simp (disch := omega) only [go_sem, ↓reduceIte, e8, Nat.reduceEqDiff, e1, hia, ↓hp1]; rfl) ?_
    refine fin _ ?_ ?_ ?_ ?_ ?_ _ (out (.inl hv0))
    all_goals simp only [upd_app, Nat.reduceEqDiff, ↓reduceIte, e0, e1, e2, e7]
    all_goals rfl
   ·by_cases hvl : (p.length : Int) ≤ v
    ·refine vcE.ex (by simp (disch := omega) only [go_sem, ↓reduceIte, e8, Nat.reduceEqDiff, e1, hia, ↓hp1, reduceCtorEq, e0, nP, nilchkA]; rfl) ?_
     refine fin _ ?_ ?_ ?_ ?_ ?_ _ (out (.inr hvl))
     all_goals simp only [upd_app, Nat.reduceEqDiff, ↓reduceIte, e0, e1, e2, e7, nP]
     all_goals rfl
    ·obtain ⟨k, rfl⟩ : ∃ k : Nat, v = k := ⟨v.toNat, by omega⟩
     have hk : k < p.length := by omega
     obtain ⟨a, ha⟩ : ∃ a, p[k]? = some a := ⟨_, List.getElem?_eq_getElem hk⟩
     have hsn := leadTo_snoc (s := sameB f) (c := c) (l := l.take i) ha
     have hsm := J1_same p f a c
     have hk1 : ((k : Int) + 1) = ((k + 1 : Nat) : Int) := rfl
     by_cases h42 : a.toNat = 42
     ·have h42' : a = 42 := UInt8.toNat_inj.1 h42
      have hst := rowBlk_store (hp := [rowBlk (p.length + 1) (leadTo (sameB f) p c (l.take i))]) (id := 0) (N := p.length + 1) (i := k) rfl (by omega)
      refine vcE.ex (by simp (disch := omega) only [go_sem, ↓reduceIte, e8, Nat.reduceEqDiff, e1, hia, ↓hp1, reduceCtorEq, e0, nP, nilchkA, ha, h42, e7, iaddr_sl1, ↓hst]; rfl) ?_
      refine fin _ ?_ ?_ ?_ ?_ ?_ _ (congrArg (fun b => [b]) (rowBlk_congr fun j hj => ?_))
      all_goals try simp only [upd_app, Nat.reduceEqDiff, ↓reduceIte, e0, e1, e2, e7, nP]
      all_goals try rfl
      rw [htk, hsn j, if_pos h42']
     ·have h42' : a ≠ 42 := fun e => h42 (by rw [e]; rfl)
      have hst := rowBlk_store (hp := [rowBlk (p.length + 1) (leadTo (sameB f) p c (l.take i))]) (id := 0) (N := p.length + 1) (i := k + 1) rfl (by omega)
      have h1 : (a == 42) = false := by simpa using h42'
      by_cases h63 : a.toNat = 63
      ·have htake : takes (sameB f) p k c = true := by
        have h63' : a = 63 := UInt8.toNat_inj.1 h63
        simp [takes, ha, h63']
       refine vcE.ex (by simp (disch := omega) only [go_sem, ↓reduceIte, e8, Nat.reduceEqDiff, e1, hia, ↓hp1, reduceCtorEq, e0, nP, nilchkA, ha, h63, e7, hk1, iaddr_sl1, ↓hst]; rfl) ?_
       refine fin _ ?_ ?_ ?_ ?_ ?_ _ (congrArg (fun b => [b]) (rowBlk_congr fun j hj => ?_))
       all_goals try simp only [upd_app, Nat.reduceEqDiff, ↓reduceIte, e0, e1, e2, e7, nP]
       all_goals try rfl
       rw [htk, hsn j, if_neg h42', htake, Bool.true_and]
      ·have h63' : a ≠ 63 := fun e => h63 (by rw [e]; rfl)
       have h2 : (a == 63) = false := by simpa using h63'
       have htake : takes (sameB f) p k c = sameB f a c := by
        simp only [takes, ha, bne, h1, h2, Bool.not_false, Bool.true_and, Bool.false_or]
       simp only [nP] at hsm
       cases hs : sameB f a c
       ·rw [hs] at hsm htake
        refine vcE.ex (by simp (disch := omega) only [go_sem, ↓reduceIte, e8, Nat.reduceEqDiff, e1, hia, ↓hp1, reduceCtorEq, e0, nP, nilchkA, ha, e2, hsm]; rfl) ?_
        refine fin _ ?_ ?_ ?_ ?_ ?_ _ (congrArg (fun b => [b]) (rowBlk_congr fun j hj => ?_))
        all_goals try simp only [upd_app, Nat.reduceEqDiff, ↓reduceIte, e0, e1, e2, e7, nP]
        all_goals try rfl
        rw [htk, hsn j, if_neg h42', htake, Bool.false_and, Bool.or_false]
       ·rw [hs] at hsm htake
        refine vcE.ex (by simp (disch := omega) only [go_sem, ↓reduceIte, e8, Nat.reduceEqDiff, e1, hia, ↓hp1, reduceCtorEq, e0, nP, nilchkA, ha, e2, hsm, e7, hk1, iaddr_sl1, ↓hst]; rfl) ?_
        refine fin _ ?_ ?_ ?_ ?_ ?_ _ (congrArg (fun b => [b]) (rowBlk_congr fun j hj => ?_))
        all_goals try simp only [upd_app, Nat.reduceEqDiff, ↓reduceIte, e0, e1, e2, e7, nP]
        all_goals try rfl
        rw [htk, hsn j, if_neg h42', htake, Bool.true_and]
  ·rintro tm hp ⟨e0, e1, e2, e7, e8, rfl⟩
   refine vcE.ex (by simp (disch := omega) only [go_sem, ↓reduceIte, e8, Nat.reduceEqDiff, e1]; rfl) ?_
   refine ⟨rfl, ?_, ?_, ?_⟩
   ·simp only [upd_app, Nat.reduceEqDiff, ↓reduceIte, e0]
   ·simp only [upd_app, Nat.reduceEqDiff, ↓reduceIte, e7]
   ·rw [List.take_length]
    rfl
 ·rintro e tm hp ⟨rfl, e0, e7, rfl⟩
  refine vcE.seq ?_
  rw [show r28_11 = r28_11.take 2 ++ ((r28_11.drop 2).take 1 ++ r28_11.drop 3) from rfl]
  refine vcE.app (vcE.ex (by simp (disch := omega) only [go_sem, ↓reduceIte, e0, Nat.reduceEqDiff, e7]; rfl) ⟨rfl, vcE.app (vcE.call (f := 58) (caps := []) (ys := [nP p f, .sl 0 0 (p.length + 1) 1 (p.length + 1) true]) rfl rfl (rOn p f hl (hp := [rowBlk (p.length + 1) (leads (sameB f) p (ofS l) c)]) (id := 0) rfl) ?_)⟩)
  rintro r hp' ⟨oid, rfl, hb⟩
  refine ⟨rfl, vcE.ex (by simp (disch := omega) only [go_sem, ↓reduceIte]; rfl) ?_⟩
  refine vcE.ex (by simp only [exC]; rfl) ?_
  exact ⟨_, rfl, hb.fresh⟩
theorem rAccepts (p : List UInt8) (f : Bool) (hl : p.length ≤ 1000000) (l : List Int) (hll : l.length ≤ 1000000) : PCF Tryz.prog 30 [nP p f, encI.S l] (.bool (ofS l p.length)) := by
 refine pcf_e hmG (TabOk.none _) comp30 (by decide) (by simp) (nidL_ok (by simp only [nidL, Enc.S_nid, nP_nid, Bool.and_self])) ?_
 refine vcE.step (by simp only [go_sem, ↓reduceIte]; rfl) (vcE.then (fun e tm hp => (e = .normal ∧ ofS l p.length = false) ∨ (e = .ret ∧ tm 4 = .bool true ∧ ofS l p.length = true)) ?_ ?_)
 ·refine vcE.step (by simp only [go_sem, ↓reduceIte]; rfl) (vcE.block (vcE.count (by intro l tm hp h; simp at h)
   (fun i tm hp => tm 0 = nP p f ∧ tm 1 = encI.S l ∧ tm 5 = .int .i64 i ∧ ofS (l.take i) p.length = false) l.length ⟨?_, ?_, ?_, ?_⟩ ?_ ?_))
  ·rfl
  ·rfl
  ·rfl
  ·simp [ofS]
  ·rintro i tm hp hi ⟨e0, e1, e5, hn⟩
   obtain ⟨v, hv⟩ : ∃ v, l[i]? = some v := ⟨_, List.getElem?_eq_getElem hi⟩
   have hia := encI_iaddr hi (k := .i64)
   have hp1 := encI.pick1 (l := l) rfl hv (v := .int .i64 v) rfl rfl
   have htk : l.take (i + 1) = l.take i ++ [v] := by rw [List.take_add_one, hv]; rfl
   by_cases hvl : v = p.length
   ·refine vcE.ex (by simp (disch := first | assumption | omega) only [go_sem, ↓reduceIte, e5, Nat.reduceEqDiff, e1, hia, ↓hp1, reduceCtorEq, e0, nP, nilchkA]; rfl) ?_
    refine .inr ⟨rfl, ?_, ?_⟩
    ·simp only [upd_app, Nat.reduceEqDiff, ↓reduceIte]
    ·simp only [ofS, decide_eq_true_eq]
     rw [← hvl]
     exact List.mem_of_getElem? hv
   ·refine vcE.ex (by simp (disch := first | assumption | omega) only [go_sem, ↓reduceIte, e5, Nat.reduceEqDiff, e1, hia, ↓hp1, reduceCtorEq, e0, nP, nilchkA]; rfl) ?_
    refine ⟨?_, ?_, ?_, ?_⟩
    ·simp only [upd_app, Nat.reduceEqDiff, ↓reduceIte, e0, nP]
    ·simp only [upd_app, Nat.reduceEqDiff, ↓reduceIte, e1]
    ·simp only [upd_app, Nat.reduceEqDiff, ↓reduceIte]; rfl
    ·rw [htk]
     simp only [ofS, decide_eq_false_iff_not, List.mem_append, List.mem_singleton] at hn ⊢
     rintro (h | h)
     ·exact hn h
     ·exact hvl h.symm
  ·rintro tm hp ⟨e0, e1, e5, hn⟩
   refine vcE.ex (by simp (disch := omega) only [go_sem, ↓reduceIte, e5, Nat.reduceEqDiff, e1]; rfl) ?_
   rw [List.take_length] at hn
   exact .inl ⟨rfl, hn⟩
 ·rintro e tm hp (⟨rfl, h⟩ | ⟨rfl, h4, h⟩)
  ·refine vcE.ex (by simp only [go_sem, ↓reduceIte]; rfl) ?_
   refine ⟨_, rfl, ?_⟩
   rw [h]
   rfl
  ·refine ⟨_, rfl, ?_⟩
   rw [h4, h]
   rfl
def J2 : Tab := ((J1.addO 27 (.cons .nfa .nil) fun p => match p.1 with
 | some (q, f) => if q.length ≤ 100000 then some (.rd true (encI.S (lst (q.length + 1) (startS q)))) else none
 | none => none).addO 28 (.cons .nfa (.cons (.S encI) (.cons .u8 .nil))) fun p => match p.1 with
 | some (q, f) => if q.length ≤ 100000 ∧ p.2.1.length ≤ 1000000 then some (.rd true (encI.S (lst (q.length + 1) (stepS (sameB f) q (ofS p.2.1) p.2.2.1)))) else none
 | none => none).addO 30 (.cons .nfa (.cons (.S encI) .nil)) fun p => match p.1 with
 | some (q, f) => if q.length ≤ 100000 ∧ p.2.1.length ≤ 1000000 then some (.rd true (.bool (ofS p.2.1 q.length))) else none
 | none => none
theorem J2_ok : TabOk Tryz.prog J2 := by
 refine TabOk.addO (TabOk.addO (TabOk.addO J1_ok ?_) ?_) ?_
 ·intro p r h
  split at h
  ·rename_i q f hq
   split at h
   ·rename_i hv
    cases h
    show PCF _ _ [nV p.1] _
    rw [hq]
    exact rStart q f hv
   ·cases h
  ·cases h
 ·intro p r h
  split at h
  ·rename_i q f hq
   split at h
   ·rename_i hv
    cases h
    show PCF _ _ [nV p.1, _, _] _
    rw [hq]
    exact rStep q f hv.1 _ hv.2 _
   ·cases h
  ·cases h
 ·intro p r h
  split at h
  ·rename_i q f hq
   split at h
   ·rename_i hv
    cases h
    show PCF _ _ [nV p.1, _] _
    rw [hq]
    exact rAccepts q f (by omega) _ hv.2
   ·cases h
  ·cases h
theorem J2_start (q : List UInt8) (f : Bool) (h : q.length ≤ 100000) : J2 27 [nP q f] = some (.rd true (encI.S (lst (q.length + 1) (startS q)))) := by
 rw [J2, Tab.addO_ne _ _ _ _ rfl, Tab.addO_ne _ _ _ _ rfl]
 refine (Tab.addO_self _ _ (.cons .nfa .nil) _ (some (q, f), ())).trans ?_
 exact if_pos h
theorem J2_step (q : List UInt8) (f : Bool) (l : List Int) (c : UInt8) (h : q.length ≤ 100000) (hl : l.length ≤ 1000000) : J2 28 [nP q f, encI.S l, .int .u8 c.toNat] = some (.rd true (encI.S (lst (q.length + 1) (stepS (sameB f) q (ofS l) c)))) := by
 rw [J2, Tab.addO_ne _ _ _ _ rfl]
 refine (Tab.addO_self _ _ (.cons .nfa (.cons (.S encI) (.cons .u8 .nil))) _ (some (q, f), l, c, ())).trans ?_
 exact if_pos ⟨h, hl⟩
theorem J2_acc (q : List UInt8) (f : Bool) (l : List Int) (h : q.length ≤ 100000) (hl : l.length ≤ 1000000) : J2 30 [nP q f, encI.S l] = some (.rd true (.bool (ofS l q.length))) := by
 refine (Tab.addO_self _ _ (.cons .nfa (.cons (.S encI) .nil)) _ (some (q, f), l, ())).trans ?_
 exact if_pos ⟨h, hl⟩
end
section
open Go Go.Proofs
def J3 : Tab := (Tab.none.addR 54 (.cons .str .nil) fun p => .rd true (.int .i64 (checkG p.1))).addO 55 (.cons .str .nil) fun p => if p.1.length ≤ 300 then some (.rd true (.str (normB p.1))) else none
theorem J3_ok : TabOk Tryz.prog J3 := by
 refine TabOk.addO (TabOk.addR (TabOk.none _) ?_) ?_
 ·exact fun p => rCheck p.1
 ·intro p r h
  split at h
  ·rename_i hv
   cases h
   exact rNorm p.1 hv
  ·cases h
theorem J3_check (p : List UInt8) : J3 54 [.str p] = some (.rd true (.int .i64 (checkG p))) := by
 rw [J3, Tab.addO_ne _ _ _ _ rfl]
 exact Tab.addR_self _ _ (.cons .str .nil) _ (p, ())
theorem J3_norm (p : List UInt8) (h : p.length ≤ 300) : J3 55 [.str p] = some (.rd true (.str (normB p))) := by
 refine (Tab.addO_self _ _ (.cons .str .nil) _ (p, ())).trans ?_
 rw [if_pos h]
theorem rNew (p : List UInt8) (f : Bool) (hl : p.length ≤ 300) : PCF Tryz.prog 25 [.str p, .bool f] (.tup [nV (newV p f), .int .i64 (checkG p)]) := by
 refine pcf_e hmG J3_ok comp25 (by decide) (by simp) (nidL_ok rfl) ?_
 have h1 := J3_norm p hl
 have h2 := J3_check p
 unfold newV
 by_cases hc : checkG p = 0
 ·refine vcE.ex (by simp (disch := first | assumption | omega) only [go_sem, ↓reduceIte, reduceCtorEq, h2, h1, Nat.reduceEqDiff, Nat.reduceAdd]; rfl) ?_
  refine ⟨_, rfl, ?_⟩
  rw [if_pos hc, hc]
  rfl
 ·refine vcE.ex (by simp (disch := first | assumption | omega) only [go_sem, ↓reduceIte, reduceCtorEq, h2, Nat.reduceEqDiff]; rfl) ?_
  refine ⟨_, rfl, ?_⟩
  rw [if_neg hc]
  rfl
end
end Go.Gi
