/- An index: its maps; made, Has, Len, lists, Put of a literal. -/
/- An index all of whose globs are one literal: what the memory holds; New, Put. -/
/- Whole numbers sorted: slices.Sort at []int. -/
/- What an index matches, if all of its globs are one literal. -/
/- Dropping the first of an index's globs. -/
/- IndexFull: as many globs as allowed, and no more. -/
import Derived.Test.YtakdhioafodhcaaGreatDoorGoJ
import Derived.Test.YtakdhioafodhcaaGreatDoorGiIR
import Derived.Test.YtakdhioafodhcaaGreatDoorGiGlB
import Derived.Test.YtakdhioafodhcaaGreatDoorGiSN
import Derived.Test.YtakdhioafodhcaaGreatDoorGiAU
import Derived.Test.YtakdhioafodhcaaGreatDoorGiSPE
import Derived.Test.YtakdhioafodhcaaGreatDoorGiMS
import Derived.Test.YtakdhioafodhcaaGreatDoorGiDK
set_option linter.unusedVariables false
set_option linter.unusedSimpArgs false
namespace Go.Gi
section
open Go Go.Proofs

/-- What the map of all globs holds. -/
def entsI (E : List (Int × Nat)) : List (AV × AV) := E.map fun y => (.int .i64 y.1, .ptr y.2 0)
theorem findI_none {k : Int} : ∀ {E : List (Int × Nat)} {i : Nat}, (∀ y ∈ E, y.1 ≠ k) → findA (.int .i64 k) (entsI E) i = some none
  | [], i, _ => rfl
  | y :: E, i, h => by
    have h1 : ¬ k = y.1 := fun e => h y (List.mem_cons_self ..) e.symm
    have ih := findI_none (E := E) (i := i + 1) fun z hz => h z (List.mem_cons_of_mem _ hz)
    have hk : kEq .i64 .i64 = true := rfl
    rw [entsI] at ih
    simp only [entsI, List.map_cons, findA, keyEqA, hk, cond_true, h1, decide_false, ih]
theorem findI_head (k : Int) (e : Nat) (E : List (Int × Nat)) : findA (.int .i64 k) (entsI ((k, e) :: E)) 0 = some (some (0, .ptr e 0)) := by
  have hk : kEq .i64 .i64 = true := rfl
  simp only [entsI, List.map_cons, findA, keyEqA, hk, cond_true, decide_true]
def glob1 (id : Int) : List AV := [.int .i64 id, .str [97], .bool false]
def entry1 (id : Int) : List AV := [.int .i64 id, .str [97], .bool false, .nilp]
section
variable {hp : HP} {x a p q w : Nat} {most : Int}
/-- An index's cells. -/
abbrev ixC (most : Int) (a p q w : Nat) : List AV := [.int .i64 most, .map a, .map p, .map q, .map w]
theorem made_calls (hx : hp[x]? = some (some (.row 57 (ixC most a p q w)))) : ACalls Tryz.prog 27 [.ptr x 0] hp fun r hp' => r = .bool true ∧ hp' = hp := by
  refine calls_e hmT (TabOk.none _) comp27 (by decide) (by simp) ?_
  refine vcE.ex (by simp (disch := first | assumption | omega) only [go_sem, ↓reduceIte, Nat.reduceEqDiff, reduceCtorEq, Nat.reduceAdd, Nat.reduceLeDiff, hx, isNilA, nilchkA]; rfl) ?_
  refine ⟨_, rfl, ?_, rfl⟩
  simp only [upd_app, Nat.reduceEqDiff, ↓reduceIte]
theorem has_calls (hx : hp[x]? = some (some (.row 57 (ixC most a p q w)))) {EA : List (AV × AV)} {bs : List Nat} {c : Nat} (ha : hp[a]? = some (some (.map EA bs c))) {id : Int} (hf : findA (.int .i64 id) EA 0 = some none) : ACalls Tryz.prog 22 [.ptr x 0, .int .i64 id] hp fun r hp' => r = .bool false ∧ hp' = hp := by
  refine calls_e hmT (TabOk.none _) comp22 (by decide) (by simp) ?_
  have hl : lookA hp .int .nilp true (.map a) (.int .i64 id) = some (.tup [.nilp, .bool false]) := by
    simp only [lookA, keyA, rowsA, ha, hf, cond_true]
  refine vcE.step (by simp (disch := first | assumption | omega) only [go_sem, ↓reduceIte, Nat.reduceEqDiff, reduceCtorEq, Nat.reduceAdd, Nat.reduceLeDiff]; rfl) ?_
  rw [show r22_1 = r22_1.take 1 ++ ((r22_1.drop 1).take 1 ++ r22_1.drop 2) from rfl]
  refine vcE.seq (vcE.seq (vcE.app (vcE.ex (by simp (disch := first | assumption | omega) only [go_sem, ↓reduceIte, Nat.reduceEqDiff, reduceCtorEq, Nat.reduceAdd, Nat.reduceLeDiff]; rfl) ⟨rfl, vcE.app (vcE.call (f := 27) (caps := []) (ys := [.ptr x 0]) rfl rfl (made_calls hx) ?_)⟩)))
  rintro r hp ⟨rfl, rfl⟩
  refine ⟨rfl, vcE.ex (by simp (disch := first | assumption | omega) only [go_sem, ↓reduceIte, Nat.reduceEqDiff, reduceCtorEq, Nat.reduceAdd, Nat.reduceLeDiff, putE]; rfl) ?_⟩
  refine vcE.ex (by simp (disch := first | assumption | omega) only [go_sem, ↓reduceIte, Nat.reduceEqDiff, reduceCtorEq, Nat.reduceAdd, Nat.reduceLeDiff]; rfl) ?_
  refine vcE.ex (by simp (disch := first | assumption | omega) only [go_sem, ↓reduceIte, Nat.reduceEqDiff, reduceCtorEq, Nat.reduceAdd, Nat.reduceLeDiff, hx, isNilA, nilchkA, ↓hl]; rfl) ?_
  refine ⟨_, rfl, ?_, rfl⟩
  simp only [upd_app, Nat.reduceEqDiff, ↓reduceIte]
theorem len_calls (hx : hp[x]? = some (some (.row 57 (ixC most a p q w)))) {EA : List (AV × AV)} {bs : List Nat} {c : Nat} (ha : hp[a]? = some (some (.map EA bs c))) : ACalls Tryz.prog 13 [.ptr x 0] hp fun r hp' => r = .int .i64 (EA.length : Int) ∧ hp' = hp := by
  refine calls_e hmT (TabOk.none _) comp13 (by decide) (by simp) ?_
  have hl : lenA hp (.map a) = some (.int .i64 (EA.length : Int)) := by
    simp only [lenA, ha]
  have hlf : lenFits .map (.map a) = true := rfl
  refine vcE.step (by simp (disch := first | assumption | omega) only [go_sem, ↓reduceIte, Nat.reduceEqDiff, reduceCtorEq, Nat.reduceAdd, Nat.reduceLeDiff]; rfl) ?_
  rw [show r13_1 = r13_1.take 1 ++ ((r13_1.drop 1).take 1 ++ r13_1.drop 2) from rfl]
  refine vcE.seq (vcE.seq (vcE.app (vcE.ex (by simp (disch := first | assumption | omega) only [go_sem, ↓reduceIte, Nat.reduceEqDiff, reduceCtorEq, Nat.reduceAdd, Nat.reduceLeDiff]; rfl) ⟨rfl, vcE.app (vcE.call (f := 27) (caps := []) (ys := [.ptr x 0]) rfl rfl (made_calls hx) ?_)⟩)))
  rintro r hp ⟨rfl, rfl⟩
  refine ⟨rfl, vcE.ex (by simp (disch := first | assumption | omega) only [go_sem, ↓reduceIte, Nat.reduceEqDiff, reduceCtorEq, Nat.reduceAdd, Nat.reduceLeDiff, putE]; rfl) ?_⟩
  refine vcE.ex (by simp (disch := first | assumption | omega) only [go_sem, ↓reduceIte, Nat.reduceEqDiff, reduceCtorEq, Nat.reduceAdd, Nat.reduceLeDiff]; rfl) ?_
  refine vcE.ex (by simp (disch := first | assumption | omega) only [go_sem, ↓reduceIte, Nat.reduceEqDiff, reduceCtorEq, Nat.reduceAdd, Nat.reduceLeDiff, hx, isNilA, nilchkA, ↓hl, hlf]; rfl) ?_
  refine ⟨_, rfl, ?_, rfl⟩
  simp only [upd_app, Nat.reduceEqDiff, ↓reduceIte]
theorem lists_calls (hx : hp[x]? = some (some (.row 57 (ixC most a p q w)))) (id : Int) : ACalls Tryz.prog 30 [.ptr x 0, .agg (glob1 id)] hp fun r hp' => r = .tup [.map p, .str [97]] ∧ hp' = hp ++ [some (Blk.row 47 (glob1 id))] := by
  refine calls_e hmT (TabOk.none _) comp30 (by rfl) (by simp) ?_
  have hq : (hp ++ [some (Blk.row 47 (glob1 id))])[hp.length]? = some (some (.row 47 [.int .i64 id, .str [97], .bool false])) := by simp [glob1]
  have hx' : (hp ++ [some (Blk.row 47 (glob1 id))])[x]? = some (some (.row 57 (ixC most a p q w))) := app_get hx
  have hc : cellsA (.agg (glob1 id)) = glob1 id := rfl
  refine vcE.ex (by simp (disch := first | assumption | omega) only [exC, exOps, exOp, wantedE, ↓reduceIte, ROp.run, evsE, evE, ty, List.getD_cons_succ, List.getD_cons_zero, boxA_eq, tz, hc, putE, Nat.reduceEqDiff, same, faddrA, Option.map_some, loadA, rowA, hq, pickA, List.getElem?_cons_succ, List.getElem?_cons_zero, chain, ordered, exOps.eq_2, reduceCtorEq, nilchkA, hx', cond_true]; rfl) ?_
  refine ⟨_, rfl, ?_, rfl⟩
  simp only [upd_app, Nat.reduceEqDiff, ↓reduceIte]
end
/-- glob.Literal of the text, run. -/
theorem runLit : xF FT noO (xC FT noO EX LT 200) 29 [.str [97]] [] = some (.tup [.str [97], .bool true], [], 0) := by kernel_rfl
theorem pLit : PCF Tryz.prog 29 [.str [97]] (.tup [.str [97], .bool true]) := pcf_run hmT FT_ok (noO_ok _) ext_ok LT_ok rfl runLit rfl
def P0 : Tab := (Tab.none.addO 29 (.cons .str .nil) fun p => if p.1 = [97] then some (.rd true (.tup [.str [97], .bool true])) else none).addR 28 (.cons .str .nil) fun p => .rd true (.int .i64 (checkG p.1))
theorem P0_ok : TabOk Tryz.prog P0 := by
  refine TabOk.addR (TabOk.addO (TabOk.none _) ?_) fun p => pCheck p.1
  intro p r h
  split at h
  · rename_i hv
    cases h
    obtain ⟨y, u⟩ := p
    simp only at hv
    subst hv
    exact pLit
  · cases h
theorem P0_lit : P0 29 [.str [97]] = some (.rd true (.tup [.str [97], .bool true])) :=
  (Tab.addR_ne _ _ _ _ rfl _).trans ((Tab.addO_self _ _ (.cons .str .nil) _ ([97], ())).trans (if_pos rfl))
theorem P0_check : P0 28 [.str [97]] = some (.rd true (.int .i64 0)) :=
  Tab.addR_self _ _ (.cons .str .nil) _ ([97], ())
section
variable {hp : HP} {x a p q w : Nat} {most : Int}
/-- Put, where there is no room. -/
theorem put_full (hx : hp[x]? = some (some (.row 57 (ixC most a p q w)))) {EA : List (AV × AV)} {bs : List Nat} {c : Nat} (ha : hp[a]? = some (some (.map EA bs c))) {id : Int} (h0 : 0 ≤ id) (hf : findA (.int .i64 id) EA 0 = some none) (hn : 200 ≤ EA.length) : ACalls Tryz.prog 11 [.ptr x 0, .int .i64 id, .str [97], .bool false] hp fun r hp' => r = .int .i64 13 ∧ hp' = hp := by
  refine calls_e hmT P0_ok comp11 (by decide) (by simp) ?_
  have hl : lenA hp (.map a) = some (.int .i64 (EA.length : Int)) := by
    simp only [lenA, ha]
  have hlf : lenFits .map (.map a) = true := rfl
  have hneg : ¬ id < 0 := by omega
  have hge : (EA.length : Int) ≥ 200 := by omega
  have k1 := P0_check
  refine vcE.step (by simp (disch := first | assumption | omega) only [go_sem, ↓reduceIte, Nat.reduceEqDiff, reduceCtorEq, Nat.reduceAdd, Nat.reduceLeDiff]; rfl) (vcE.seq (vcE.block ?_))
  rw [show r11_1 = r11_1.take 1 ++ ((r11_1.drop 1).take 1 ++ r11_1.drop 2) from rfl]
  refine vcE.seq (vcE.app (vcE.ex (by simp (disch := first | assumption | omega) only [go_sem, ↓reduceIte, Nat.reduceEqDiff, reduceCtorEq, Nat.reduceAdd, Nat.reduceLeDiff]; rfl) ⟨rfl, vcE.app (vcE.call (f := 27) (caps := []) (ys := [.ptr x 0]) rfl rfl (made_calls hx) ?_)⟩))
  rintro r hp ⟨rfl, rfl⟩
  refine ⟨rfl, vcE.ex (by simp (disch := first | assumption | omega) only [go_sem, ↓reduceIte, Nat.reduceEqDiff, reduceCtorEq, Nat.reduceAdd, Nat.reduceLeDiff, putE]; rfl) ?_⟩
  refine vcE.condFalse (by simp only [evE, upd_app, Nat.reduceEqDiff, ↓reduceIte]) ?_
  refine vcE.step (by simp (disch := first | assumption | omega) only [go_sem, ↓reduceIte, Nat.reduceEqDiff, reduceCtorEq, Nat.reduceAdd, Nat.reduceLeDiff, hneg, decide_false]; rfl) (vcE.condFalse (by simp only [evE, upd_app, Nat.reduceEqDiff, ↓reduceIte]) ?_)
  rw [show r11_5 = r11_5.take 2 ++ ((r11_5.drop 2).take 1 ++ r11_5.drop 3) from rfl]
  refine vcE.seq (vcE.app (vcE.ex (by simp (disch := first | assumption | omega) only [go_sem, ↓reduceIte, Nat.reduceEqDiff, reduceCtorEq, Nat.reduceAdd, Nat.reduceLeDiff]; rfl) ⟨rfl, vcE.app (vcE.call (f := 22) (caps := []) (ys := [.ptr x 0, .int .i64 id]) rfl rfl (has_calls hx ha hf) ?_)⟩))
  rintro r hp ⟨rfl, rfl⟩
  refine ⟨rfl, vcE.ex (by simp (disch := first | assumption | omega) only [go_sem, ↓reduceIte, Nat.reduceEqDiff, reduceCtorEq, Nat.reduceAdd, Nat.reduceLeDiff, putE]; rfl) ?_⟩
  refine vcE.ex (by simp (disch := first | assumption | omega) only [go_sem, ↓reduceIte, Nat.reduceEqDiff, reduceCtorEq, Nat.reduceAdd, Nat.reduceLeDiff]; rfl) ?_
  refine vcE.ex (by simp (disch := first | assumption | omega) only [exC, exOps, exOp, wantedE, ↓reduceIte, ROp.run, evsE, evE, ty, Nat.reduceEqDiff, List.getD_cons_succ, List.getD_cons_zero, putE, List.append_nil, frzL.eq_2, tz, frzL, k1, Cls.isFree, callCls, nidL.eq_2, nidL, same, binA, intA, decide_true, Option.map_some, reduceCtorEq, nilchkA, faddrA, loadA, rowA, hx, pickA, List.getElem?_cons_succ, List.getElem?_cons_zero, hlf, ↓hl, hge]; rfl) ?_
  refine ⟨_, rfl, ?_, rfl⟩
  simp only [upd_app, Nat.reduceEqDiff, ↓reduceIte]
/-- The memory while a literal is put. -/
abbrev putH (hp : HP) (a : Nat) (EA : List (AV × AV)) (bs : List Nat) (c : Nat) (id : Int) : HP := (hp ++ [some (Blk.row 62 (entry1 id))]).set a (some (Blk.map (EA ++ [(AV.int .i64 id, AV.ptr hp.length 0)]) (bs ++ [c]) (c + 1)))
theorem put_calls (hx : hp[x]? = some (some (.row 57 (ixC most a p q w)))) {EA EP : List (AV × AV)} {bs bp : List Nat} {c cp : Nat} (ha : hp[a]? = some (some (.map EA bs c))) (hpl : hp[p]? = some (some (.map EP bp cp))) (hax : x ≠ a) (hpa : p ≠ a) {id : Int} (h0 : 0 ≤ id) (hf : findA (.int .i64 id) EA 0 = some none) (hn : EA.length < 200) {v v' : AV} {hp5 hp6 : HP} (hv : ∀ H : HP, H[p]? = some (some (.map EP bp cp)) → lookA H .str .nils false (.map p) (.str [97]) = some v)
    (h5 : appA 3 1 8 ((putH hp a EA bs c id ++ [some (Blk.row 47 (glob1 id))]) ++ [some (Blk.row 3 [AV.int .i64 id])]) v (.sl (putH hp a EA bs c id ++ [some (Blk.row 47 (glob1 id))]).length 0 1 1 1 true) = some (v', hp5)) (h6 : mapupA hp5 .str (.map p) (.str [97]) v' = some hp6) :
    ACalls Tryz.prog 11 [.ptr x 0, .int .i64 id, .str [97], .bool false] hp fun r hp' => r = .int .i64 0 ∧ hp' = hp6 := by
  refine calls_e hmT P0_ok comp11 (by decide) (by simp) ?_
  have hl : lenA hp (.map a) = some (.int .i64 (EA.length : Int)) := by
    simp only [lenA, ha]
  have hlf : lenFits .map (.map a) = true := rfl
  have hneg : ¬ id < 0 := by omega
  have hge : ¬ (EA.length : Int) ≥ 200 := by omega
  have k1 := P0_check
  have k2 := P0_lit
  refine vcE.step (by simp (disch := first | assumption | omega) only [go_sem, ↓reduceIte, Nat.reduceEqDiff, reduceCtorEq, Nat.reduceAdd, Nat.reduceLeDiff]; rfl) (vcE.seq (vcE.block ?_))
  rw [show r11_1 = r11_1.take 1 ++ ((r11_1.drop 1).take 1 ++ r11_1.drop 2) from rfl]
  refine vcE.seq (vcE.app (vcE.ex (by simp (disch := first | assumption | omega) only [go_sem, ↓reduceIte, Nat.reduceEqDiff, reduceCtorEq, Nat.reduceAdd, Nat.reduceLeDiff]; rfl) ⟨rfl, vcE.app (vcE.call (f := 27) (caps := []) (ys := [.ptr x 0]) rfl rfl (made_calls hx) ?_)⟩))
  rintro r hp ⟨rfl, rfl⟩
  refine ⟨rfl, vcE.ex (by simp (disch := first | assumption | omega) only [go_sem, ↓reduceIte, Nat.reduceEqDiff, reduceCtorEq, Nat.reduceAdd, Nat.reduceLeDiff, putE]; rfl) ?_⟩
  refine vcE.condFalse (by simp only [evE, upd_app, Nat.reduceEqDiff, ↓reduceIte]) ?_
  refine vcE.step (by simp (disch := first | assumption | omega) only [go_sem, ↓reduceIte, Nat.reduceEqDiff, reduceCtorEq, Nat.reduceAdd, Nat.reduceLeDiff, hneg, decide_false]; rfl) (vcE.condFalse (by simp only [evE, upd_app, Nat.reduceEqDiff, ↓reduceIte]) ?_)
  rw [show r11_5 = r11_5.take 2 ++ ((r11_5.drop 2).take 1 ++ r11_5.drop 3) from rfl]
  refine vcE.seq (vcE.app (vcE.ex (by simp (disch := first | assumption | omega) only [go_sem, ↓reduceIte, Nat.reduceEqDiff, reduceCtorEq, Nat.reduceAdd, Nat.reduceLeDiff]; rfl) ⟨rfl, vcE.app (vcE.call (f := 22) (caps := []) (ys := [.ptr x 0, .int .i64 id]) rfl rfl (has_calls hx ha hf) ?_)⟩))
  rintro r hp ⟨rfl, rfl⟩
  refine ⟨rfl, vcE.ex (by simp (disch := first | assumption | omega) only [go_sem, ↓reduceIte, Nat.reduceEqDiff, reduceCtorEq, Nat.reduceAdd, Nat.reduceLeDiff, putE]; rfl) ?_⟩
  refine vcE.ex (by simp (disch := first | assumption | omega) only [go_sem, ↓reduceIte, Nat.reduceEqDiff, reduceCtorEq, Nat.reduceAdd, Nat.reduceLeDiff]; rfl) ?_
  have f1 : fillA [(0, 1), (1, 1), (2, 1)] [.int .i64 0, .str [], .bool false] (([0, 1, 2] : List Nat).zip [.int .i64 id, .str [97], .bool false]) = some (glob1 id) := rfl
  have f2 : fillA [(0, 3), (3, 1)] [.int .i64 0, .str [], .bool false, .nilp] (([0] : List Nat).zip [.agg (glob1 id)]) = some (entry1 id) := rfl
  have fc : cellsA (.agg (entry1 id)) = entry1 id := rfl
  have g0 := get_lt hx
  have ga := get_lt ha
  have hx1 : (hp ++ [some (Blk.row 62 (entry1 id))])[x]? = _ := app_get hx
  have hup : mapupA (hp ++ [some (.row 62 (entry1 id))]) .int (.map a) (.int .i64 id) (.ptr hp.length 0) = some (putH hp a EA bs c id) := by
    have ha1 : (hp ++ [some (Blk.row 62 (entry1 id))])[a]? = some (some (.map EA bs c)) := app_get ha
    simp only [mapupA, keyA, ha1, hf, cond_true]
  refine vcE.step (by simp (disch := first | assumption | omega) only [go_sem, ↓reduceIte, Nat.reduceEqDiff, reduceCtorEq, Nat.reduceAdd, Nat.reduceLeDiff, k1]; rfl) (vcE.step (by simp (disch := first | assumption | omega) only [exC, exOps, exOp, wantedE, ↓reduceIte, ROp.run, evsE, evE, ty, reduceCtorEq, List.getD_cons_zero, putE, same, nilchkA, Option.map_some, faddrA, loadA, rowA, hx, pickA, List.getElem?_cons_succ, List.getElem?_cons_zero, tz, hlf, ↓hl, binA, intA, hge, decide_false]; rfl) (vcE.step (by simp (disch := first | assumption | omega) only [go_sem, ↓reduceIte, Nat.reduceEqDiff, reduceCtorEq, Nat.reduceAdd, Nat.reduceLeDiff, ↓f1, ↓f2, boxA_eq, fc]; rfl) (vcE.step (by simp (disch := first | assumption | omega) only [go_sem, ↓reduceIte, Nat.reduceEqDiff, reduceCtorEq, Nat.reduceAdd, Nat.reduceLeDiff, hx1, isNilA, nilchkA, ↓hup]; rfl) (vcE.seq (vcE.step (by simp (disch := first | assumption | omega) only [go_sem, ↓reduceIte, Nat.reduceEqDiff, reduceCtorEq, Nat.reduceAdd, Nat.reduceLeDiff, k2, Bool.true_or]; rfl) (vcE.step (by simp (disch := first | assumption | omega) only [go_sem, ↓reduceIte, Nat.reduceEqDiff, reduceCtorEq, Nat.reduceAdd, Nat.reduceLeDiff]; rfl) (vcE.condTrue (by simp only [evE, upd_app, Nat.reduceEqDiff, ↓reduceIte]) ?_)))))))
  have hx2 : (putH hp a EA bs c id)[x]? = some (some (.row 57 (ixC most a p q w))) := by
    rw [set_get_ne (Ne.symm hax)]
    exact hx1
  have hp2 : (putH hp a EA bs c id)[p]? = some (some (.map EP bp cp)) := by
    rw [set_get_ne (Ne.symm hpa)]
    exact app_get hpl
  have he2 : (putH hp a EA bs c id)[hp.length]? = some (some (.row 62 (entry1 id))) := by
    rw [set_get_ne (by omega)]
    simp
  have hpe : pickA (some 3) (entry1 id) 0 = some (.agg (glob1 id)) := rfl
  rw [show r11_16 = r11_16.take 5 ++ ((r11_16.drop 5).take 1 ++ r11_16.drop 6) from rfl]
  have hlk := hv (putH hp a EA bs c id ++ [some (Blk.row 47 (glob1 id))]) (app_get hp2)
  generalize putH hp a EA bs c id = H2 at *
  refine vcE.seq (vcE.app (vcE.ex (by simp (disch := first | assumption | omega) only [go_sem, ↓reduceIte, Nat.reduceEqDiff, reduceCtorEq, Nat.reduceAdd, Nat.reduceLeDiff, isNilA, nilchkA, he2, ↓hpe]; rfl) ⟨rfl, vcE.app (vcE.call (f := 30) (caps := []) (ys := [.ptr x 0, .agg (glob1 id)]) rfl rfl (lists_calls hx2 id) ?_)⟩))
  rintro r hp ⟨rfl, rfl⟩
  refine ⟨rfl, vcE.ex (by simp (disch := first | assumption | omega) only [go_sem, ↓reduceIte, Nat.reduceEqDiff, reduceCtorEq, Nat.reduceAdd, Nat.reduceLeDiff, putE]; rfl) ?_⟩
  refine vcE.ex (by simp (disch := first | assumption | omega) only [go_sem, ↓reduceIte, Nat.reduceEqDiff, reduceCtorEq, Nat.reduceAdd, Nat.reduceLeDiff, ↓hlk, ↓h5, ↓h6]; rfl) ?_
  refine ⟨_, rfl, ?_, rfl⟩
  simp only [upd_app, Nat.reduceEqDiff, ↓reduceIte]
end
end
section
open Go Go.Proofs

def plnE (sl n : Nat) : List (AV × AV) := if n = 0 then [] else [(.str [97], bld sl n 1)]
/-- The index lies in block 4, its maps in 0 to 3. -/
structure Ix (hp : HP) (E : List (Int × Nat)) (sl : Nat) : Prop where
  hx : hp[4]? = some (some (.row 57 (ixC 4 0 1 2 3)))
  ha : ∃ bs c, hp[0]? = some (some (.map (entsI E) bs c))
  hl : ∃ bs c, hp[1]? = some (some (.map (plnE sl E.length) bs c))
  hq : hp[2]? = some (some (.map [] [] 0))
  hw : hp[3]? = some (some (.map [] [] 0))
  en : ∀ y ∈ E, 5 ≤ y.2 ∧ y.2 ≠ sl ∧ hp[y.2]? = some (some (.row 62 (entry1 y.1)))
  hs : E = [] ∨ (5 ≤ sl ∧ hp[sl]? = some (some (.row 3 (encI.cs (E.map (·.1))))))
theorem new_calls : ACalls Tryz.prog 9 [.int .i64 4] [] fun r hp' => r = .ptr 4 0 ∧ Ix hp' [] 0 := by
  refine calls_e hmT (TabOk.none _) comp9 (by decide) (by simp) ?_
  have hf : fillA [(0, 1), (1, 1), (2, 1), (3, 1), (4, 1)] [.int .i64 0, .nilm, .nilm, .nilm, .nilm] (([0, 1, 2, 3, 4] : List Nat).zip [.int .i64 4, .map 0, .map 1, .map 2, .map 3]) = some (ixC 4 0 1 2 3) := rfl
  have hc : cellsA (.agg (ixC 4 0 1 2 3)) = ixC 4 0 1 2 3 := rfl
  refine vcE.ex (by simp (disch := first | assumption | omega) only [go_sem, ↓reduceIte, Nat.reduceEqDiff, reduceCtorEq, Nat.reduceAdd, Nat.reduceLeDiff, mkmapA, ↓hf, boxA_eq, hc]; rfl) ?_
  refine ⟨_, rfl, ?_, ⟨rfl, ⟨_, _, rfl⟩, ⟨_, _, rfl⟩, rfl, rfl, fun y hy => absurd hy List.not_mem_nil, .inl rfl⟩⟩
  simp only [upd_app, Nat.reduceEqDiff, ↓reduceIte]
  rfl
section
variable {hp : HP} {E : List (Int × Nat)} {sl : Nat}
theorem plnE_look {H : HP} {bs : List Nat} {c n : Nat} (h : H[1]? = some (some (.map (plnE sl n) bs c))) : lookA H .str .nils false (.map 1) (.str [97]) = some (bld sl n 1) := by
  unfold plnE at h
  by_cases h0 : n = 0
  · rw [if_pos h0] at h
    subst h0
    simp only [lookA, keyA, rowsA, h, findA, cond_true, cond_false]
    rfl
  · rw [if_neg h0] at h
    have hk : keyEqA (.str [97]) (.str [97]) = some true := rfl
    simp only [lookA, keyA, rowsA, h, findA, hk, cond_true, cond_false]
theorem plnE_up {H : HP} {bs : List Nat} {c n sl2 : Nat} (h : H[1]? = some (some (.map (plnE sl n) bs c))) (m : Nat) : ∃ bs' c', mapupA H .str (.map 1) (.str [97]) (bld sl2 (m + 1) 1) = some (H.set 1 (some (.map (plnE sl2 (m + 1)) bs' c'))) := by
  have hm : plnE sl2 (m + 1) = [(.str [97], bld sl2 (m + 1) 1)] := if_neg (by omega)
  rw [hm]
  unfold plnE at h
  by_cases h0 : n = 0
  · rw [if_pos h0] at h
    refine ⟨bs ++ [c], c + 1, ?_⟩
    simp only [mapupA, keyA, h, findA, cond_true, List.nil_append]
  · rw [if_neg h0] at h
    have hk : keyEqA (.str [97]) (.str [97]) = some true := rfl
    refine ⟨bs, c, ?_⟩
    simp only [mapupA, keyA, h, findA, hk, cond_true]
    rfl
theorem put_ix (h : Ix hp E sl) {id : Int} (h0 : 0 ≤ id) (hni : ∀ y ∈ E, y.1 ≠ id) (hn : E.length < 200) : ACalls Tryz.prog 11 [.ptr 4 0, .int .i64 id, .str [97], .bool false] hp fun r hp' => r = .int .i64 0 ∧ ∃ sl', Ix hp' (E ++ [(id, hp.length)]) sl' := by
  obtain ⟨hx, ⟨bs, c, ha⟩, ⟨bp, cp, hl⟩, hq, hw, en, hs⟩ := h
  have g4 := get_lt hx
  have hf := findI_none (i := 0) hni
  have hH2 : ∀ (k : Nat) (y : Option Blk), k ≠ 0 → hp[k]? = some y → (putH hp 0 (entsI E) bs c id)[k]? = some y := fun k y hk hy => by
    rw [set_get_ne (Ne.symm hk)]
    exact app_get hy
  have hH0 : (putH hp 0 (entsI E) bs c id)[0]? = some (some (.map (entsI (E ++ [(id, hp.length)])) (bs ++ [c]) (c + 1))) := by
    rw [set_get (app_get ha), entsI, entsI, List.map_append]
    rfl
  have hHe : (putH hp 0 (entsI E) bs c id)[hp.length]? = some (some (.row 62 (entry1 id))) := by
    rw [set_get_ne (by omega)]
    simp
  have hHl : (putH hp 0 (entsI E) bs c id).length = hp.length + 1 := by simp
  have hput := fun v v' hp5 hp6 hv h5 h6 => put_calls (v := v) (v' := v') (hp5 := hp5) (hp6 := hp6) hx ha hl (by decide) (by decide) h0 hf (by simpa [entsI] using hn) hv h5 h6
  generalize putH hp 0 (entsI E) bs c id = H2 at *
  have hH3 : ∀ (k : Nat) (y : Option Blk), H2[k]? = some y → ((H2 ++ [some (Blk.row 47 (glob1 id))]) ++ [some (Blk.row 3 [AV.int .i64 id])])[k]? = some y := fun k y hy => app_get (app_get hy)
  have hH3l : (H2 ++ [some (Blk.row 47 (glob1 id))]).length = hp.length + 2 := by simp [hHl]
  have hb : BldAt encI ((H2 ++ [some (Blk.row 47 (glob1 id))]) ++ [some (Blk.row 3 [AV.int .i64 id])]) sl 3 (E.map (·.1)) := by
    rcases hs with rfl | ⟨h5, h6⟩
    · exact .inl rfl
    · exact .inr (hH3 _ _ (hH2 _ _ (by omega) h6))
  have hsrc : srcA ((H2 ++ [some (Blk.row 47 (glob1 id))]) ++ [some (Blk.row 3 [AV.int .i64 id])]) 1 (.sl (H2 ++ [some (Blk.row 47 (glob1 id))]).length 0 1 1 1 true) = some (encI.cs [id], [id].length) := by simp [srcA]; rfl
  have h5 := hb.more (bytes := 8) hsrc (by simp) (by simp; omega) (by simp; omega)
  have hat := BldAt.moreAt encI ((H2 ++ [some (Blk.row 47 (glob1 id))]) ++ [some (Blk.row 3 [AV.int .i64 id])]) sl (E.map (·.1)).length 3 (E.map (·.1) ++ [id])
  have hoth : ∀ (k : Nat) (y : Option Blk), H2[k]? = some y → (E = [] ∨ k ≠ sl) → (bldH ((H2 ++ [some (Blk.row 47 (glob1 id))]) ++ [some (Blk.row 3 [AV.int .i64 id])]) sl (E.map (·.1)).length (.row 3 (encI.cs (E.map (·.1) ++ [id]))))[k]? = some y := fun k y hy hk => bldH_other (hH3 k y hy) (hk.imp (fun e => by rw [e]; rfl) fun h => h)
  have hL : ((H2 ++ [some (Blk.row 47 (glob1 id))]) ++ [some (Blk.row 3 [AV.int .i64 id])]).length = hp.length + 3 := by simp [hHl]
  have e1 : (E.map (·.1) ++ [id]).length = E.length + 1 := by simp
  rw [hL] at h5 hat
  rw [e1, List.length_map] at h5
  rw [List.length_map] at hat hoth
  generalize bldH ((H2 ++ [some (Blk.row 47 (glob1 id))]) ++ [some (Blk.row 3 [AV.int .i64 id])]) sl E.length (.row 3 (encI.cs (E.map (·.1) ++ [id]))) = H5 at h5 hat hoth
  have hsl1 : ∀ k : Nat, k < 5 → (E = [] ∨ k ≠ sl) := fun k hk => hs.imp (fun e => e) fun h => by omega
  have hl5 := hoth 1 _ (hH2 1 _ (by omega) hl) (hsl1 1 (by omega))
  obtain ⟨bs', c', h6⟩ := plnE_up (sl2 := hp.length + 3) hl5 E.length
  refine (hput _ _ H5 _ (fun H hH => plnE_look hH) h5 h6).mono ?_
  rintro r hp' ⟨rfl, rfl⟩
  refine ⟨rfl, hp.length + 3, ?_⟩
  have fin : ∀ (k : Nat) (y : Option Blk), k ≠ 1 → H2[k]? = some y → (E = [] ∨ k ≠ sl) → (H5.set 1 (some (.map (plnE (hp.length + 3) (E.length + 1)) bs' c')))[k]? = some y := fun k y hk hy hks => by
    rw [set_get_ne (Ne.symm hk)]
    exact hoth k y hy hks
  refine ⟨fin 4 _ (by omega) (hH2 4 _ (by omega) hx) (hsl1 4 (by omega)), ⟨_, _, fin 0 _ (by omega) hH0 (hsl1 0 (by omega))⟩, ⟨bs', c', ?_⟩, fin 2 _ (by omega) (hH2 2 _ (by omega) hq) (hsl1 2 (by omega)), fin 3 _ (by omega) (hH2 3 _ (by omega) hw) (hsl1 3 (by omega)), ?_, .inr ⟨by omega, ?_⟩⟩
  · rw [set_get hl5, List.length_append, List.length_singleton]
  · intro y hy
    rcases List.mem_append.1 hy with hy | hy
    · obtain ⟨e1, e2, e3⟩ := en y hy
      have := get_lt e3
      exact ⟨e1, by omega, fin _ _ (by omega) (hH2 _ _ (by omega) e3) (.inr e2)⟩
    · rw [List.mem_singleton] at hy
      subst hy
      refine ⟨by simp only; omega, by simp only; omega, fin _ _ (by simp only; omega) hHe ?_⟩
      exact hs.imp (fun e => e) fun h => by have := get_lt h.2; simp only; omega
  · rw [set_get_ne (by omega), List.map_append]
    exact hat.resolve_left (by simp)
end
end
section
open Go Go.Proofs

def elIn : El1 Int where
  E := encI
  v c := .int .i64 c
  hv _ := rfl
  one _ := rfl
  nt _ _ h := by cases h
  ce _ := rfl
  nv _ := rfl
  fz _ _ := rfl
def ltZ (x y : Int) : Bool := decide (x < y)
theorem swoZ : Sort.SWO ltZ := by
  refine ⟨fun x => ?_, fun x y z h1 h2 => ?_, fun x y z h1 h2 => ?_⟩
  all_goals simp only [ltZ, decide_eq_true_eq, decide_eq_false_iff_not] at *
  all_goals omega
theorem ltZ_tot (x y : Int) (h1 : ltZ x y = false) (h2 : ltZ y x = false) : x = y := by
  simp only [ltZ, decide_eq_false_iff_not] at h1 h2
  omega
theorem pNaNI (c : Int) : PCF Tryz.prog 100 [.int .i64 c] (.bool false) := by
  refine pcf_e hmT (TabOk.none _) comp100 (by decide) (by simp) (nidL_ok rfl) ?_
  refine vcE.ex (by simp (disch := first | assumption | omega) only [go_sem, ↓reduceIte, Nat.reduceEqDiff, reduceCtorEq, Nat.reduceAdd, Nat.reduceLeDiff, Bool.not_true]; rfl) ?_
  exact ⟨_, rfl, rfl⟩
def N0 : Tab := Tab.none.addR 100 (.cons .i64 .nil) fun _ => .rd true (.bool false)
theorem N0_ok : TabOk Tryz.prog N0 := TabOk.addR (TabOk.none _) fun p => pNaNI p.1
theorem N0_nan (c : Int) : N0 100 [.int .i64 c] = some (.rd true (.bool false)) :=
  Tab.addR_self _ _ (.cons .i64 .nil) _ (c, ())
theorem pLessI (x y : Int) : PCF Tryz.prog 72 [.int .i64 x, .int .i64 y] (.bool (ltZ x y)) := by
  refine pcf_e hmT N0_ok comp72 (by decide) (by simp) (nidL_ok rfl) ?_
  have h1 := N0_nan x
  refine vcE.ex (by simp (disch := first | assumption | omega) only [go_sem, ↓reduceIte, Nat.reduceEqDiff, reduceCtorEq, Nat.reduceAdd, Nat.reduceLeDiff, h1, Bool.true_or]; rfl) ?_
  refine ⟨_, rfl, ?_⟩
  simp only [upd_app, Nat.reduceEqDiff, ↓reduceIte, ltZ]
  rfl
def N1 : Tab := N0.addR 72 (.cons .i64 (.cons .i64 .nil)) fun p => .rd true (.bool (ltZ p.1 p.2.1))
theorem N1_ok : TabOk Tryz.prog N1 := TabOk.addR N0_ok fun p => pLessI p.1 p.2.1
theorem N1_less : Lss elIn ltZ N1 72 := fun x y => Tab.addR_self _ _ (.cons .i64 (.cons .i64 .nil)) _ (x, y, ())
def srtI : SrtF Tryz.prog 72 where
  fsd := 95
  fins := 66
  fhs := 67
  fo2 := 118
  fmd := 99
  fma := 98
  fcp := 69
  frv := 70
  fl64 := 76
  fl32 := 75
  fbl := 53
  fnp := 96
  fxs := 97
  fbp := 68
  fpi := 71
  fpe := 73
  fpt := 74
  fpdq := 52
  ti := 3
  tx := 154
  hsd' := hintL [(3, 6), (5, 6), (6, 6)]
  hins' := hintL [(4, 6), (6, 6)]
  hhs' := hintL [(10, 6)]
  ho2' := hintL [(1, 6)]
  hmd' := fun _ => 0
  hma' := fun _ => 0
  hcp' := fun _ => 0
  hrv' := hintL [(3, 6)]
  h64' := fun _ => 0
  hbl' := fun _ => 0
  hnp' := fun _ => 0
  hxs' := hintL [(1, 6), (2, 6), (3, 6)]
  hbp' := hintL [(10, 6)]
  hpi' := hintL [(5, 6), (11, 6), (16, 6), (17, 6), (22, 6), (23, 6)]
  hpe' := hintL [(1, 6), (3, 6), (5, 6), (8, 6)]
  hpt' := hintL [(1, 6), (3, 6), (5, 6), (8, 6), (10, 6), (13, 6), (15, 6), (18, 6), (21, 6)]
  hpdq' := hintL [(17, 6)]
  hsd := by kernel_rfl
  hins := by kernel_rfl
  hhs := by kernel_rfl
  ho2 := by kernel_rfl
  hmd := by kernel_rfl
  hma := by kernel_rfl
  hcp := by kernel_rfl
  hrv := by kernel_rfl
  h64 := by kernel_rfl
  hbl := by kernel_rfl
  hnp := by kernel_rfl
  hxs := by kernel_rfl
  hbp := by kernel_rfl
  hpi := by kernel_rfl
  hpe := by kernel_rfl
  hpt := by kernel_rfl
  hpdq := by kernel_rfl
end
section
open Go Go.Proofs

def sdI : SdF Tryz.prog elIn ltZ where
  fy := 51
  fa := 65
  fc := 50
  fs := 37
  fd := 34
  less := 72
  T := N1
  e := 3
  tb := 28
  bytes := 8
  lk := 65000
  hy := fun _ => 0
  ha := hintL [(1000002, 65000), (2000002, 13)]
  hc := fun _ => 0
  hs := fun _ => 0
  hd := fun _ => 0
  S := srtI
  hT := N1_ok
  hless := N1_less
  swo := swoZ
  tot := ltZ_tot
  dec v := match v with
    | .int _ n => n
    | _ => 0
  hdec _ := rfl
  small := by decide
  cy := comp51
  ca := comp65
  ka := keys65
  la := lok65000
  cc := comp50
  cs := comp37
  cd := comp34

theorem frame_le {hp H : HP} (h : ∀ j, j < hp.length → H[j]? = hp[j]?) : hp.length ≤ H.length := by
  rcases Nat.lt_or_ge H.length hp.length with h1 | h1
  · have := h _ h1
    rw [List.getElem?_eq_getElem h1, List.getElem?_eq_none (Nat.le_refl _)] at this
    cases this
  · exact h1
theorem Ix.frame {hp H : HP} {E : List (Int × Nat)} {sl : Nat} (h : Ix hp E sl) (hf : ∀ j, j < hp.length → H[j]? = hp[j]?) : Ix H E sl := by
  have g : ∀ {j : Nat} {y : Option Blk}, hp[j]? = some y → H[j]? = some y := fun h => by rw [hf _ (get_lt h)]; exact h
  obtain ⟨h1, ⟨b1, c1, h2⟩, ⟨b2, c2, h3⟩, h4, h5, h6, h7⟩ := h
  exact ⟨g h1, ⟨_, _, g h2⟩, ⟨_, _, g h3⟩, g h4, g h5, fun y hy => ⟨(h6 y hy).1, (h6 y hy).2.1, g (h6 y hy).2.2⟩, h7.imp (fun h => h) fun h => ⟨h.1, g h.2⟩⟩

theorem runFold : xF FT noO (xC FT noO EX LT 200) 33 [.str [97]] [] = some (.str [97], [], 0) := by kernel_rfl
theorem pFoldA : PCF Tryz.prog 33 [.str [97]] (.str [97]) := pcf_run hmT FT_ok (noO_ok _) ext_ok LT_ok rfl runFold rfl
def P1 : Tab := Tab.none.addO 33 (.cons .str .nil) fun p => if p.1 = [97] then some (.rd true (.str [97])) else none
theorem P1_ok : TabOk Tryz.prog P1 := by
  refine TabOk.addO (TabOk.none _) ?_
  intro p r h
  split at h
  · rename_i hv
    cases h
    obtain ⟨y, u⟩ := p
    simp only at hv
    subst hv
    exact pFoldA
  · cases h
theorem P1_fold : P1 33 [.str [97]] = some (.rd true (.str [97])) :=
  (Tab.addO_self _ _ (.cons .str .nil) _ ([97], ())).trans (if_pos rfl)

section
variable {hp : HP} {E : List (Int × Nat)} {sl : Nat}
theorem match_calls (h : Ix hp E sl) (hn : E.length ≤ 1000) : ACalls Tryz.prog 12 [.ptr 4 0, .str [97]] hp fun r H => ∃ id, r = bld id E.length 1 ∧ BldAt encI H id 3 (srtL ltZ (E.map (·.1))) ∧ hp.length ≤ id ∧ ∀ j, j < hp.length → H[j]? = hp[j]? := by
  have h' := h
  obtain ⟨hx, ⟨b1, c1, ha⟩, ⟨b2, c2, hl⟩, hq, hw, hen, hs⟩ := h
  refine calls_e hmT P1_ok comp12 (by decide) (by simp) ?_
  refine vcE.step (by simp (disch := first | assumption | omega) only [go_sem, ↓reduceIte, Nat.reduceEqDiff, reduceCtorEq, Nat.reduceAdd, Nat.reduceLeDiff]; rfl) ?_
  rw [show r12_1 = r12_1.take 1 ++ ((r12_1.drop 1).take 1 ++ r12_1.drop 2) from rfl]
  refine vcE.seq (vcE.seq (vcE.app (vcE.ex (by simp (disch := first | assumption | omega) only [go_sem, ↓reduceIte, Nat.reduceEqDiff, reduceCtorEq, Nat.reduceAdd, Nat.reduceLeDiff]; rfl) ⟨rfl, vcE.app (vcE.call (f := 27) (caps := []) (ys := [.ptr 4 0]) rfl rfl (made_calls hx) ?_)⟩)))
  rintro r hp ⟨rfl, rfl⟩
  refine ⟨rfl, vcE.ex (by simp (disch := first | assumption | omega) only [go_sem, ↓reduceIte, Nat.reduceEqDiff, reduceCtorEq, Nat.reduceAdd, Nat.reduceLeDiff, putE]; rfl) ?_⟩
  refine vcE.condFalse (by simp only [evE, upd_app, Nat.reduceEqDiff, ↓reduceIte]) ?_
  refine vcE.ex (by simp (disch := first | assumption | omega) only [go_sem, ↓reduceIte, Nat.reduceEqDiff, reduceCtorEq, Nat.reduceAdd, Nat.reduceLeDiff]; rfl) ?_
  have k1 := P1_fold
  have hlook := plnE_look hl
  have hlook2 : lookA hp .str .nils false (.map 2) (.str [97]) = some .nils := by simp only [lookA, keyA, rowsA, hq, findA]; rfl
  have hnt : notTup (bld sl E.length 1) = true := by unfold bld; split <;> rfl
  have hbc := bld_cells sl E.length 1
  refine vcE.seq (vcE.dv (fun tm H => ∃ id, tm 5 = bld id E.length 1 ∧ tm 0 = .ptr 4 0 ∧ BldAt encI H id 3 (E.map (·.1)) ∧ hp.length ≤ id ∧ ∀ j, j < hp.length → H[j]? = hp[j]?) (dvT.ops [0, 1, 2, 3, 4, 5, 6, 7, 8, 9, 10, 11, 12, 13] (by simp (disch := first | assumption | omega) only [pickO, List.getElem?_cons_zero, List.getElem?_cons_succ, exOps.eq_2, exOp, wantedE, ↓reduceIte, ROp.run, evsE, evE, ty, reduceCtorEq, List.getD_cons_zero, putE, exOps, same, nilchkA, Option.map_some, faddrA, loadA, rowA, hx, ixC, pickA, tz, Nat.reduceEqDiff, List.getD_cons_succ, ↓hlook, List.append_nil, frzL.eq_2, frzL, k1, Cls.isFree, callCls, nidL.eq_2, nidL, ↓hlook2, bslA, hnt, hbc, List.length_cons, List.length_nil, beq_self_eq_true, Nat.reduceAdd, flatA, List.flatMap_cons, List.flatMap_nil, List.cons_append, List.nil_append]; rfl) ?_) ?_)
  · have hb : BldAt encI hp sl 3 (E.map (·.1)) := hs.imp (fun h => by rw [h]; rfl) fun h => h.2
    have hrow : (hp ++ [some (Blk.row 28 [bld sl E.length 1, .nils])])[hp.length]? = some (some (.row 28 [bld sl E.length 1, .nils])) := by simp
    have hel : [E.map (·.1), []].flatten.length = E.length := by simp
    have hcc := concat_calls hmT encI (0 : Int) comp32 comp49 (lo := 2) (ex := true) (ls := [E.map (·.1), []]) hrow rfl (by
      intro x hx
      simp only [List.mem_cons, List.not_mem_nil, or_false] at hx
      rcases hx with rfl | rfl
      · exact bld_one _ _ _
      · rfl) (by
      intro i x l h1 h2
      match i with
      | 0 =>
        simp only [List.getElem?_cons_zero, Option.some.injEq] at h1 h2
        subst h1; subst h2
        refine ⟨bld_fits _ _ _, fun hp => by rw [bld_len, List.length_map], fun new => ?_⟩
        have := ((hb.app [some (Blk.row 28 [bld sl E.length 1, .nils])]).app new).src
        rw [List.length_map] at this
        rw [List.length_map]
        exact this
      | 1 =>
        simp only [List.getElem?_cons_zero, List.getElem?_cons_succ, Option.some.injEq] at h1 h2
        subst h1; subst h2
        exact ⟨rfl, fun _ => rfl, fun _ => rfl⟩
      | (k + 2) => simp at h1) (by rw [hel]; omega) (by rw [hel]; omega) (by simp)
    have hfl : [E.map (·.1), []].flatten = E.map (·.1) := by simp
    rw [hfl, List.length_map] at hcc
    refine dvT.call (g := 32) (ys := [.sl hp.length 0 2 1 2 true]) rfl ?_ hcc ?_ (dvT.ops [15] (t := .done) (by simp (disch := first | assumption | omega) only [pickO, List.getElem?_cons_succ, List.getElem?_cons_zero, putE, exOps.eq_2, exOp, wantedE, ↓reduceIte, ROp.run, evsE, evE, ty, exOps]; rfl) (dvT.done ?_))
    · simp only [evsE, evE, upd_app, Nat.reduceEqDiff, ↓reduceIte]
    · exact ⟨_, rfl⟩
    · have e1 : (hp ++ [some (Blk.row 28 [bld sl E.length 1, .nils])]).length = hp.length + 1 := by simp
      refine ⟨hp.length + 1, ?_, ?_, ?_, by omega, ?_⟩
      · simp only [putE, upd_app, Nat.reduceEqDiff, ↓reduceIte, e1]
        unfold catV bld
        rfl
      · simp only [putE, upd_app, Nat.reduceEqDiff, ↓reduceIte]
        rfl
      · by_cases h0 : E.length = 0
        · exact .inl (by rw [List.eq_nil_of_length_eq_zero h0]; rfl)
        · refine .inr ?_
          unfold catH
          rw [if_neg h0, List.length_map, Nat.sub_self, List.replicate_zero, List.append_nil]
          rw [List.getElem?_append_right (by omega), e1, Nat.sub_self]
          rfl
      · intro j hj
        rw [List.append_assoc, List.getElem?_append_left hj]
  · rintro tm H ⟨id, t5, t0, hb, hid, hfr⟩
    have h2 := h'.frame hfr
    have hx2 := h2.hx
    have hw2 := h2.hw
    clear hlook hlook2 hnt hbc
    rw [show r12_4 = r12_4.take 4 ++ ((r12_4.drop 4).take 1 ++ ((r12_4.drop 5).take 1 ++ r12_4.drop 6)) from rfl]
    refine vcE.seq (vcE.seq (vcE.app (vcE.ex (by simp (disch := first | assumption | omega) only [go_sem, ↓reduceIte, Nat.reduceEqDiff, reduceCtorEq, Nat.reduceAdd, Nat.reduceLeDiff, t0, hx2, isNilA, nilchkA]; rfl) ⟨rfl, vcE.app (vcE.call (f := 35) (caps := []) (ys := [.map 3]) rfl ?_ (kys_calls hmT comp35) ?_)⟩)))
    · simp only [evsE, evE, upd_app, Nat.reduceEqDiff, ↓reduceIte]
    rintro r H1 ⟨rfl, rfl⟩
    have hlt2 := get_lt hw2
    have hbx : (H ++ [some (Blk.row 54 [.map 3])])[H.length]? = some (some (.row 54 [.map 3])) := by simp
    refine ⟨rfl, vcE.app (vcE.call (f := 34) (caps := []) (ys := [.func 51 [.ptr H.length 0]]) rfl (by simp only [evsE, evE, putE, upd_app, Nat.reduceEqDiff, ↓reduceIte]) (sdI.sorted hmT (es := []) (bs := []) (c := 0) (ks := []) hbx (app_get hw2) ⟨List.nodup_nil, by simp, rfl⟩ rfl (by simp)) ?_)⟩
    rintro r H2 ⟨sl2, rfl, _, _, hfr2, _⟩
    have hfr3 : ∀ j, j < H.length → H2[j]? = H[j]? := fun j hj => by
      rw [hfr2 j (by simp; omega), List.getElem?_append_left hj]
    have hb2 : BldAt encI H2 id 3 (E.map (·.1)) := hb.imp (fun h => h) fun h => by rw [hfr3 _ (get_lt h)]; exact h
    have hfr4 : ∀ j, j < hp.length → H2[j]? = hp[j]? := fun j hj => by
      have := frame_le hfr
      rw [hfr3 j (by omega)]
      exact hfr j hj
    have hz : bld sl2 ([] : List Int).length 1 = .nils := rfl
    refine ⟨rfl, vcE.ex (by simp (disch := first | assumption | omega) only [go_sem, ↓reduceIte, Nat.reduceEqDiff, reduceCtorEq, Nat.reduceAdd, Nat.reduceLeDiff, putE, hz]; rfl) ?_⟩
    refine vcE.block (vcE.count (by intro l tm hp h; simp [RetE] at h) (fun i tm H => H = H2 ∧ tm 5 = bld id E.length 1 ∧ tm 32 = .int .i64 0 ∧ tm 33 = .int .i64 0) 0 ⟨rfl, ?_, ?_, ?_⟩ (fun i _ _ h => absurd h (Nat.not_lt_zero _)) ?_)
    · simp only [putE, upd_app, Nat.reduceEqDiff, ↓reduceIte, t5]
    · simp only [putE, upd_app, Nat.reduceEqDiff, ↓reduceIte]
    · simp only [putE, upd_app, Nat.reduceEqDiff, ↓reduceIte]
    rintro tm H ⟨rfl, t5, t32, t33⟩
    refine vcE.ex (by simp (disch := first | assumption | omega) only [exC, exOps, exOp, wantedE, ↓reduceIte, ROp.run, evsE, evE, t33, t32, same, binA, intA, Int.lt_irrefl, decide_false, Option.map_some, putE, ty]; rfl) ?_
    have hs0 : Srt elIn 3 id H H (E.map (·.1)).toArray := ⟨hb2.imp (fun h => by rw [h]; rfl) fun h => h, fun _ _ _ => rfl, Nat.le_refl _⟩
    have hsla : SlA id (E.map (·.1)).toArray (bld id E.length 1) := by
      refine ⟨fun i hi => ?_, by rw [List.size_toArray, List.length_map]; omega⟩
      rw [List.size_toArray, List.length_map] at hi
      rw [bld_pos (by omega)]
      exact iaddr_sl1 hi
    rw [show r12_10 = r12_10.take 1 ++ r12_10.drop 1 from rfl]
    refine vcE.seq (vcE.app (vcE.ex (by simp (disch := first | assumption | omega) only [go_sem, ↓reduceIte, Nat.reduceEqDiff, reduceCtorEq, Nat.reduceAdd, Nat.reduceLeDiff, t5]; rfl) ⟨rfl, vcE.call (f := 37) (caps := []) (ys := [bld id E.length 1]) rfl (by simp only [evsE, evE, putE, upd_app, Nat.reduceEqDiff, ↓reduceIte]) (srt_calls hmT N1_ok N1_less swoZ srtI comp37 hs0 hsla (fun hp => by rw [bld_len, List.size_toArray, List.length_map]) (bld_fits _ _ _)) ?_⟩))
    rintro r H3 hd
    obtain ⟨rfl, hs3⟩ := Done.eq swoZ ltZ_tot hd
    refine vcE.ex (by simp (disch := first | assumption | omega) only [go_sem, ↓reduceIte, Nat.reduceEqDiff, reduceCtorEq, Nat.reduceAdd, Nat.reduceLeDiff, putE, t5]; rfl) ?_
    refine ⟨_, rfl, id, by simp only [upd_app, Nat.reduceEqDiff, ↓reduceIte], ?_, hid, ?_⟩
    · exact hs3.row.imp (fun h => List.eq_nil_of_length_eq_zero h) fun h => h
    · intro j hj
      have := frame_le hfr4
      rw [hs3.oth j (by omega) (by omega)]
      exact hfr4 j hj
end
end
section
open Go Go.Proofs

/-- The function that tells which number goes. -/
theorem is_calls {H : HP} {b : Nat} {t : TypeId} {id a : Int} (hb : H[b]? = some (some (.row t [.int .i64 id]))) : ACalls Tryz.prog 39 [.int .i64 a, .ptr b 0] H fun r H' => r = .bool (decide (a = id)) ∧ H' = H := by
  refine calls_e hmT (TabOk.none _) comp39 (by decide) (by simp) ?_
  refine vcE.ex (by simp (disch := first | assumption | omega) only [go_sem, ↓reduceIte, Nat.reduceEqDiff, reduceCtorEq, Nat.reduceAdd, Nat.reduceLeDiff, hb]; rfl) ?_
  refine ⟨_, rfl, ?_, rfl⟩
  simp only [upd_app, Nat.reduceEqDiff, ↓reduceIte]

/-- Behind a drop. -/
structure Ix2 (hp : HP) (E : List (Int × Nat)) (sl : Nat) : Prop where
  hx : hp[4]? = some (some (.row 57 (ixC 4 0 1 2 3)))
  ha : ∃ bs c, hp[0]? = some (some (.map (entsI E) bs c))
  hl : ∃ bs c, hp[1]? = some (some (.map [(.str [97], .sl sl 0 E.length 1 (E.length + 1) false)] bs c))
  hs : 5 ≤ sl ∧ ∃ x : Int, hp[sl]? = some (some (.row 3 (encI.cs (E.map (·.1) ++ [x]))))

theorem drop_calls {hp : HP} {E : List (Int × Nat)} {sl : Nat} {id : Int} {e0 : Nat} (h : Ix hp ((id, e0) :: E) sl) (hn : E.length ≤ 1000) (hpos : 0 < E.length) (hne : ∀ y ∈ E, y.1 ≠ id) : ACalls Tryz.prog 14 [.ptr 4 0, .int .i64 id] hp fun r H => r = .int .i64 0 ∧ Ix2 H E sl := by
  obtain ⟨hx, ⟨b1, c1, ha⟩, ⟨b2, c2, hl⟩, hq, hw, hen, hs⟩ := h
  obtain ⟨hs5, hs⟩ := hs.resolve_left (by simp)
  obtain ⟨he5, hesl, hent⟩ := hen (id, e0) List.mem_cons_self
  have hkeep : (((id, e0) :: E).map (·.1)).filter (fun a => !decide (a = id)) = E.map (·.1) := by
    simp only [List.map_cons, List.filter_cons, decide_true, Bool.not_true, Bool.false_eq_true, if_false]
    refine List.filter_eq_self.2 fun a ha => ?_
    obtain ⟨y, hy, rfl⟩ := List.mem_map.1 ha
    simp [hne y hy]
  have g4 := get_lt hx
  have gsl := get_lt hs
  have gen := get_lt hent
  refine calls_e hmT (TabOk.none _) comp14 (by decide) (by simp) ?_
  refine vcE.step (by simp (disch := first | assumption | omega) only [go_sem, ↓reduceIte, Nat.reduceEqDiff, reduceCtorEq, Nat.reduceAdd, Nat.reduceLeDiff, boxA_eq, cellsA]; rfl) ?_
  generalize hH0 : hp ++ [some (Blk.row 3 [AV.int .i64 id])] = H0
  have k4 : H0[4]? = some (some (.row 57 (ixC 4 0 1 2 3))) := by rw [← hH0]; exact app_get hx
  have k0 : H0[0]? = some (some (.map (entsI ((id, e0) :: E)) b1 c1)) := by rw [← hH0]; exact app_get ha
  have k1 : H0[1]? = some (some (.map (plnE sl (E.length + 1)) b2 c2)) := by rw [← hH0]; exact app_get hl
  have ke : H0[e0]? = some (some (.row 62 (entry1 id))) := by rw [← hH0]; exact app_get hent
  have ks : H0[sl]? = some (some (.row 3 (encI.cs (((id, e0) :: E).map (·.1))))) := by rw [← hH0]; exact app_get hs
  have kb : H0[hp.length]? = some (some (.row 3 [.int .i64 id])) := by rw [← hH0]; simp
  rw [show r14_1 = r14_1.take 1 ++ ((r14_1.drop 1).take 1 ++ r14_1.drop 2) from rfl]
  refine vcE.seq (vcE.seq (vcE.app (vcE.ex (by simp (disch := first | assumption | omega) only [go_sem, ↓reduceIte, Nat.reduceEqDiff, reduceCtorEq, Nat.reduceAdd, Nat.reduceLeDiff]; rfl) ⟨rfl, vcE.app (vcE.call (f := 27) (caps := []) (ys := [.ptr 4 0]) rfl rfl (made_calls k4) ?_)⟩)))
  rintro r H1 ⟨rfl, rfl⟩
  have hlk : lookA H1 .int .nilp true (.map 0) (.int .i64 id) = some (.tup [.ptr e0 0, .bool true]) := by
    simp only [lookA, keyA, rowsA, k0, findI_head, cond_true]
  have hdel : delA H1 .int (.map 0) (.int .i64 id) = some (H1.set 0 (some (.map (entsI E) (b1.eraseIdx 0) c1))) := by
    simp only [delA, keyA, k0, findI_head, cond_true]
    rfl
  have hld4 : loadA H1 none (.ptr 4 1) = some (.map 0) := by
    simp only [loadA, rowA, k4, pickA]
    rfl
  have hldb : loadA H1 none (.ptr hp.length 0) = some (.int .i64 id) := by
    simp only [loadA, rowA, kb, pickA]
    rfl
  refine ⟨rfl, vcE.ex (by simp (disch := first | assumption | omega) only [go_sem, ↓reduceIte, Nat.reduceEqDiff, reduceCtorEq, Nat.reduceAdd, Nat.reduceLeDiff, putE]; rfl) ?_⟩
  refine vcE.condFalse (by simp only [evE, upd_app, Nat.reduceEqDiff, ↓reduceIte]) ?_
  refine vcE.ex (by simp (disch := first | assumption | omega) only [go_sem, ↓reduceIte, Nat.reduceEqDiff, reduceCtorEq, Nat.reduceAdd, Nat.reduceLeDiff]; rfl) ?_
  refine vcE.step (by simp (disch := first | assumption | omega) only [exC, chain, ordered, List.getElem?_cons_zero, List.getElem?_cons_succ, exOps.eq_2, exOp, wantedE, ↓reduceIte, ROp.run, evsE, evE, ty, reduceCtorEq, List.getD_cons_zero, putE, exOps, same, nilchkA, Option.map_some, faddrA, ↓hld4, Nat.reduceEqDiff, ↓hldb, ↓hlk, cond_true]; rfl) ?_
  refine vcE.step (by simp (disch := first | assumption | omega) only [go_sem, ↓reduceIte, Nat.reduceEqDiff, reduceCtorEq, Nat.reduceAdd, Nat.reduceLeDiff]; rfl) ?_
  refine vcE.step (by simp (disch := first | assumption | omega) only [exC, chain, ordered, List.getElem?_cons_zero, List.getElem?_cons_succ, exOps.eq_2, exOp, wantedE, ↓reduceIte, ROp.run, evsE, evE, ty, reduceCtorEq, List.getD_cons_zero, putE, exOps, same, nilchkA, Option.map_some, faddrA, ↓hld4, Nat.reduceEqDiff, ↓hldb, ↓hdel, cond_true]; rfl) ?_
  have k4' : (H1.set 0 (some (.map (entsI E) (b1.eraseIdx 0) c1)))[4]? = some (some (.row 57 (ixC 4 0 1 2 3))) := by rw [set_get_ne (by omega)]; exact k4
  have k0' : (H1.set 0 (some (.map (entsI E) (b1.eraseIdx 0) c1)))[0]? = some (some (.map (entsI E) (b1.eraseIdx 0) c1)) := set_get k0
  have k1' : (H1.set 0 (some (.map (entsI E) (b1.eraseIdx 0) c1)))[1]? = some (some (.map (plnE sl (E.length + 1)) b2 c2)) := by rw [set_get_ne (by omega)]; exact k1
  have ke' : (H1.set 0 (some (.map (entsI E) (b1.eraseIdx 0) c1)))[e0]? = some (some (.row 62 (entry1 id))) := by rw [set_get_ne (by omega)]; exact ke
  have ks' : (H1.set 0 (some (.map (entsI E) (b1.eraseIdx 0) c1)))[sl]? = some (some (.row 3 (encI.cs (((id, e0) :: E).map (·.1))))) := by rw [set_get_ne (by omega)]; exact ks
  have kb' : (H1.set 0 (some (.map (entsI E) (b1.eraseIdx 0) c1)))[hp.length]? = some (some (.row 3 [.int .i64 id])) := by rw [set_get_ne (by omega)]; exact kb
  generalize H1.set 0 (some (.map (entsI E) (b1.eraseIdx 0) c1)) = H2 at *
  clear k4 k0 k1 ke ks kb hlk hdel hld4 hldb
  have hpn : loadA H2 none (.ptr e0 3) = some .nilp := by
    simp only [loadA, rowA, ke', pickA]
    rfl
  have hpe : loadA H2 (some 3) (.ptr e0 0) = some (.agg (glob1 id)) := by
    simp only [loadA, rowA, ke', pickA]
    rfl
  refine vcE.step (by simp (disch := first | assumption | omega) only [go_sem, ↓reduceIte, Nat.reduceEqDiff, reduceCtorEq, Nat.reduceAdd, Nat.reduceLeDiff, isNilA, nilchkA, ↓hpn]; rfl) ?_
  rw [show r14_10 = r14_10.take 5 ++ ((r14_10.drop 5).take 1 ++ r14_10.drop 6) from rfl]
  refine vcE.seq (vcE.app (vcE.ex (by simp (disch := first | assumption | omega) only [go_sem, ↓reduceIte, Nat.reduceEqDiff, reduceCtorEq, Nat.reduceAdd, Nat.reduceLeDiff, isNilA, nilchkA, ↓hpe]; rfl) ⟨rfl, vcE.app (vcE.call (f := 30) (caps := []) (ys := [.ptr 4 0, .agg (glob1 id)]) rfl (by simp only [evsE, evE, upd_app, Nat.reduceEqDiff, ↓reduceIte]) (lists_calls k4' id) ?_)⟩))
  rintro r H3 ⟨rfl, rfl⟩
  refine ⟨rfl, vcE.ex (by simp (disch := first | assumption | omega) only [go_sem, ↓reduceIte, Nat.reduceEqDiff, reduceCtorEq, Nat.reduceAdd, Nat.reduceLeDiff, putE]; rfl) ?_⟩
  have q : ∀ {j : Nat} {y : Option Blk}, H2[j]? = some y → (H2 ++ [some (Blk.row 47 (glob1 id))])[j]? = some y := fun h => app_get h
  have k4 := q k4'
  have k0 := q k0'
  have k1 := q k1'
  have ks := q ks'
  have kb := q kb'
  generalize H2 ++ [some (Blk.row 47 (glob1 id))] = H3 at *
  clear q k4' k0' k1' ke' ks' kb' hpn hpe
  have hlk := plnE_look k1
  rw [bld_pos (Nat.succ_pos _)] at hlk
  have hll : (((id, e0) :: E).map (·.1)).length = E.length + 1 := by simp
  have hdf := deleteF1 (L := elIn) (hp := H3) (id := sl) (cap := E.length + 1) (e := 3) (ex := false) (l := ((id, e0) :: E).map (·.1)) (rest := []) (p := fun a => decide (a = id)) (g := 39) (caps := [.ptr hp.length 0]) hmT (0 : Int) comp38 comp54 (by rw [List.append_nil]; exact ks) (by rw [hll]; omega) (by rw [hll]; omega) (fun a H hf => is_calls (by rw [hf _ (by omega)]; exact kb))
  rw [hkeep, hll, List.length_map] at hdf
  rw [show r14_11 = r14_11.take 6 ++ ((r14_11.drop 6).take 1 ++ r14_11.drop 7) from rfl]
  refine vcE.seq (vcE.app (vcE.ex (by simp (disch := first | assumption | omega) only [go_sem, ↓reduceIte, Nat.reduceEqDiff, reduceCtorEq, Nat.reduceAdd, Nat.reduceLeDiff, ↓hlk]; rfl) ⟨rfl, vcE.app (vcE.call (f := 38) (caps := []) (ys := [.sl sl 0 (E.length + 1) 1 (E.length + 1) false, .func 39 [.ptr hp.length 0]]) rfl (by simp only [evsE, evE, upd_app, Nat.reduceEqDiff, ↓reduceIte]) hdf ?_)⟩))
  rintro r H4 ⟨rfl, rest, hr1, hfr, hrow⟩
  have m1 : H4[1]? = some (some (.map [(.str [97], bld sl (E.length + 1) 1)] b2 c2)) := by
    rw [hfr 1 (by omega), k1]
    unfold plnE
    rw [if_neg (Nat.succ_ne_zero _)]
  have m4 : H4[4]? = some (some (.row 57 (ixC 4 0 1 2 3))) := by rw [hfr 4 (by omega)]; exact k4
  have m0 : H4[0]? = some (some (.map (entsI E) (b1.eraseIdx 0) c1)) := by rw [hfr 0 (by omega)]; exact k0
  have hk : keyEqA (.str [97]) (.str [97]) = some true := rfl
  have hup : mapupA H4 .str (.map 1) (.str [97]) (.sl sl 0 E.length 1 (E.length + 1) false) = some (H4.set 1 (some (.map [(.str [97], .sl sl 0 E.length 1 (E.length + 1) false)] b2 c2))) := by
    simp only [mapupA, keyA, m1, findA, hk, cond_true]
    rfl
  have n1 : (H4.set 1 (some (.map [(.str [97], .sl sl 0 E.length 1 (E.length + 1) false)] b2 c2)))[1]? = some (some (.map [(.str [97], .sl sl 0 E.length 1 (E.length + 1) false)] b2 c2)) := set_get m1
  have hlk2 : lookA (H4.set 1 (some (.map [(.str [97], .sl sl 0 E.length 1 (E.length + 1) false)] b2 c2))) .str .nils false (.map 1) (.str [97]) = some (.sl sl 0 E.length 1 (E.length + 1) false) := by
    simp only [lookA, keyA, rowsA, n1, findA, hk, cond_true, cond_false]
  have hz : ¬ (E.length : Int) = 0 := by omega
  refine ⟨rfl, vcE.ex (by simp (disch := first | assumption | omega) only [go_sem, ↓reduceIte, Nat.reduceEqDiff, reduceCtorEq, Nat.reduceAdd, Nat.reduceLeDiff, putE, ↓hup]; rfl) ?_⟩
  refine vcE.ex (by simp (disch := first | assumption | omega) only [go_sem, ↓reduceIte, Nat.reduceEqDiff, reduceCtorEq, Nat.reduceAdd, Nat.reduceLeDiff, ↓hlk2, hz, decide_false]; rfl) ?_
  refine ⟨_, rfl, by simp only [upd_app, Nat.reduceEqDiff, ↓reduceIte], ?_⟩
  obtain ⟨x, rfl⟩ : ∃ x, rest = [x] := by
    rcases rest with _ | ⟨x, _ | ⟨y, l⟩⟩
    · simp at hr1
    · exact ⟨x, rfl⟩
    · simp at hr1
  exact ⟨by rw [set_get_ne (by omega)]; exact m4, ⟨_, _, by rw [set_get_ne (by omega)]; exact m0⟩, ⟨_, _, n1⟩, hs5, x, by rw [set_get_ne (by omega)]; exact hrow⟩
/-- One more fits then. -/
theorem put_again {hp : HP} {E : List (Int × Nat)} {sl : Nat} (h : Ix2 hp E sl) {id : Int} (h0 : 0 ≤ id) (hni : ∀ y ∈ E, y.1 ≠ id) (hpos : 0 < E.length) (hn : E.length < 200) : ACalls Tryz.prog 11 [.ptr 4 0, .int .i64 id, .str [97], .bool false] hp fun r hp' => r = .int .i64 0 := by
  obtain ⟨hx, ⟨bs, c, ha⟩, ⟨bp, cp, hl⟩, hs5, x, hs⟩ := h
  have hk : keyEqA (.str [97]) (.str [97]) = some true := rfl
  have hv : ∀ H : HP, H[1]? = some (some (.map [(.str [97], .sl sl 0 E.length 1 (E.length + 1) false)] bp cp)) → lookA H .str .nils false (.map 1) (.str [97]) = some (.sl sl 0 E.length 1 (E.length + 1) false) := fun H h1 => by
    simp only [lookA, keyA, rowsA, h1, findA, hk, cond_true, cond_false]
  have gsl := get_lt hs
  have k1 : (putH hp 0 (entsI E) bs c id ++ [some (Blk.row 47 (glob1 id))])[1]? = some (some (.map [(.str [97], .sl sl 0 E.length 1 (E.length + 1) false)] bp cp)) := app_get (by rw [set_get_ne (by omega)]; exact app_get hl)
  have ks : (putH hp 0 (entsI E) bs c id ++ [some (Blk.row 47 (glob1 id))])[sl]? = some (some (.row 3 (encI.cs (E.map (·.1) ++ [x])))) := app_get (by rw [set_get_ne (by omega)]; exact app_get hs)
  have hput := fun v' hp5 hp6 h5 h6 => put_calls (v := .sl sl 0 E.length 1 (E.length + 1) false) (v' := v') (hp5 := hp5) (hp6 := hp6) hx ha hl (by decide) (by decide) h0 (findI_none hni) (by simpa [entsI] using hn) hv h5 h6
  generalize putH hp 0 (entsI E) bs c id ++ [some (Blk.row 47 (glob1 id))] = H2 at *
  have hsrc : srcA (H2 ++ [some (Blk.row 3 [AV.int .i64 id])]) 1 (.sl H2.length 0 1 1 1 true) = some ([AV.int .i64 id], 1) := by simp [srcA]
  have hap : appA 3 1 8 (H2 ++ [some (Blk.row 3 [AV.int .i64 id])]) (.sl sl 0 E.length 1 (E.length + 1) false) (.sl H2.length 0 1 1 1 true) = some (.sl sl 0 (E.length + 1) 1 (E.length + 1) false, (H2 ++ [some (Blk.row 3 [AV.int .i64 id])]).set sl (some (.row 3 (over (encI.cs (E.map (·.1) ++ [x])) (0 + E.length * 1) [AV.int .i64 id])))) := by
    have hcl : (encI.cs (E.map (·.1) ++ [x])).length = E.length + 1 := by
      rw [encI.cs_len]
      simp [encI]
    simp only [appA, hsrc, app_get ks]
    rw [if_neg (by omega), if_pos ⟨trivial, by omega⟩, if_pos (by omega), if_pos (by omega)]
  have n1 : ((H2 ++ [some (Blk.row 3 [AV.int .i64 id])]).set sl (some (.row 3 (over (encI.cs (E.map (·.1) ++ [x])) (0 + E.length * 1) [AV.int .i64 id]))))[1]? = some (some (.map [(.str [97], .sl sl 0 E.length 1 (E.length + 1) false)] bp cp)) := by
    rw [set_get_ne (by omega)]
    exact app_get k1
  exact (hput _ _ _ hap (by simp only [mapupA, keyA, n1, findA, hk, cond_true]; rfl)).mono fun r hp' h => h.1
end
section
open Go Go.Proofs

def pickK (n : Int) : Int := if n.tmod 1000 < 0 then n.tmod 1000 + 1000 else n.tmod 1000
theorem pickK_range (n : Int) : 0 ≤ pickK n ∧ pickK n < 1000 := by
  have h2 := Int.tmod_lt_of_pos n (b := 1000) (by omega)
  have h3 := Int.lt_tmod_of_pos n (b := 1000) (by omega)
  unfold pickK
  split <;> omega
theorem pPickK (n : Int) : PCF Tryz.prog 10 [.int .i64 n, .int .i64 1000] (.int .i64 (pickK n)) := by
  refine pcf_e hmT (TabOk.none _) comp10 (by decide) (by simp) (nidL_ok rfl) ?_
  have h2 := Int.tmod_lt_of_pos n (b := 1000) (by omega)
  have h3 := Int.lt_tmod_of_pos n (b := 1000) (by omega)
  have h0 : ¬ (1000 : Int) = 0 := by omega
  have h1 : ¬ (1000 : Int) < 1 := by omega
  unfold pickK
  by_cases h4 : n.tmod 1000 < 0
  all_goals refine vcE.ex (by simp (disch := first | assumption | omega) only [exC, exOps, exOp, wantedE, ↓reduceIte, ROp.run, evsE, evE, putE, ty, Nat.reduceEqDiff, List.getD_cons_succ, List.getD_cons_zero, same, binA, intA, h1, decide_false, Option.map_some, reduceCtorEq, h0, h4, decide_true]; rfl) ?_
  all_goals refine ⟨_, rfl, ?_⟩
  all_goals simp only [upd_app, Nat.reduceEqDiff, ↓reduceIte, fresh_int, h4, if_true, if_false]
def P2 : Tab := (Tab.none.addR 8 .nil fun _ => .rd true (.bool true)).addO 10 (.cons .i64 (.cons .i64 .nil)) fun p => if p.2.1 = 1000 then some (.rd true (.int .i64 (pickK p.1))) else none
theorem P2_ok : TabOk Tryz.prog P2 := by
  refine TabOk.addO (TabOk.addR (TabOk.none _) ?_) ?_
  · exact fun _ => pLives
  intro p r h
  split at h
  · rename_i hv
    cases h
    obtain ⟨x, y, u⟩ := p
    simp only at hv
    subst hv
    exact pPickK x
  · cases h
theorem P2_lives : P2 8 [] = some (.rd true (.bool true)) := rfl
theorem P2_pick (n : Int) : P2 10 [.int .i64 n, .int .i64 1000] = some (.rd true (.int .i64 (pickK n))) :=
  (Tab.addO_self _ _ (.cons .i64 (.cons .i64 .nil)) _ (n, 1000, ())).trans (if_pos rfl)

/-- The numbers of the first globs. -/
def idsF (a b : Int) (n : Nat) : List Int := (List.range n).map fun (k : Nat) => a + k * b
theorem idsF_succ (a b : Int) (n : Nat) : idsF a b (n + 1) = idsF a b n ++ [a + n * b] := by
  simp [idsF, List.range_succ]
theorem idsF_len (a b : Int) (n : Nat) : (idsF a b n).length = n := by simp [idsF]
theorem mul_mono1 {b : Int} (hb : 1 ≤ b) {i j : Nat} (h : i < j) : (i : Int) * b < j * b := Int.mul_lt_mul_of_pos_right (by omega) (by omega)
theorem idsF_ne {a b : Int} (hb : 1 ≤ b) {n m : Nat} (h : n ≤ m) : ∀ x ∈ idsF a b n, x ≠ a + m * b := by
  intro x hx
  obtain ⟨k, hk, rfl⟩ := List.mem_map.1 hx
  have := mul_mono1 hb (i := k) (j := m) (by have := List.mem_range.1 hk; omega)
  omega
theorem idsF_pair {a b : Int} (hb : 1 ≤ b) (n : Nat) : (idsF a b n).Pairwise fun x y => (!ltZ y x) = true := by
  rw [idsF, List.pairwise_map]
  refine List.pairwise_lt_range.imp fun {i j} h => ?_
  have := mul_mono1 hb h
  simp only [ltZ, Bool.not_eq_true', decide_eq_false_iff_not]
  omega
theorem idsF_cons (a b : Int) (n : Nat) : idsF a b (n + 1) = a :: (List.range n).map fun (k : Nat) => a + (k + 1 : Nat) * b := by
  simp [idsF, List.range_succ_eq_map]

/-- The first globs are put. -/
def FJ (a b : Int) (i : Nat) (hp : HP) : Prop := ∃ E sl, Ix hp E sl ∧ E.map (·.1) = idsF a b i
theorem put_fj {a b : Int} (ha : 0 ≤ a) (hb : 1 ≤ b) {i : Nat} (hi : i < 200) {hp : HP} (h : FJ a b i hp) : ACalls Tryz.prog 11 [.ptr 4 0, .int .i64 (a + i * b), .str [97], .bool false] hp fun r hp' => r = .int .i64 0 ∧ FJ a b (i + 1) hp' := by
  obtain ⟨E, sl, hE, he⟩ := h
  have hl : E.length = i := by
    have := congrArg List.length he
    rwa [List.length_map, idsF_len] at this
  have hib : 0 ≤ (i : Int) * b := Int.mul_nonneg (by omega) (by omega)
  refine (put_ix hE (id := a + i * b) (by omega) (fun y hy => idsF_ne hb (Nat.le_refl i) _ (by rw [← he]; exact List.mem_map_of_mem hy)) (by omega)).mono ?_
  rintro r hp' ⟨rfl, sl', h'⟩
  exact ⟨rfl, _, sl', h', by rw [List.map_append, he, idsF_succ]; rfl⟩
theorem lawFull (a b : Int) : PC Tryz.prog 3 [.int .i64 a, .int .i64 b] (.bool true) := by
  refine pc_e hmT P2_ok comp3 (by decide) (by simp) (nidL_ok rfl) ?_
  have ra := pickK_range a
  have rb := pickK_range b
  have k1 := P2_lives
  have k2 := P2_pick a
  have k3 := P2_pick b
  refine vcE.step (by simp (disch := first | assumption | omega) only [go_sem, ↓reduceIte, Nat.reduceEqDiff, reduceCtorEq, Nat.reduceAdd, Nat.reduceLeDiff]; rfl) (vcE.step (by simp (disch := first | assumption | omega) only [go_sem, ↓reduceIte, Nat.reduceEqDiff, reduceCtorEq, Nat.reduceAdd, Nat.reduceLeDiff, k1]; rfl) ?_)
  rw [show r3_3 = r3_3.take 1 ++ r3_3.drop 1 from rfl]
  refine vcE.seq (vcE.app (vcE.call (f := 9) (caps := []) (ys := [.int .i64 4]) rfl (by simp only [evsE, evE]) new_calls ?_))
  rintro r hp ⟨rfl, hI⟩
  refine ⟨rfl, vcE.ex (by simp (disch := first | assumption | omega) only [go_sem, ↓reduceIte, Nat.reduceEqDiff, reduceCtorEq, Nat.reduceAdd, Nat.reduceLeDiff, putE]; rfl) ?_⟩
  refine vcE.step (by simp (disch := first | assumption | omega) only [go_sem, ↓reduceIte, Nat.reduceEqDiff, reduceCtorEq, Nat.reduceAdd, Nat.reduceLeDiff, k2, k3]; rfl) ?_
  have hw0 : IntKind.wrap .i64 (1 + pickK b) = 1 + pickK b := wrap_i64 (by omega) (by omega)
  refine vcE.then (fun e' tm H => e' = .normal ∧ FJ (pickK a) (1 + pickK b) 200 H ∧ tm 5 = .ptr 4 0 ∧ tm 6 = .int .i64 (pickK a) ∧ tm 7 = .int .i64 (1 + pickK b)) ?_ ?_
  · refine vcE.step (by simp (disch := first | assumption | omega) only [go_sem, ↓reduceIte, Nat.reduceEqDiff, reduceCtorEq, Nat.reduceAdd, Nat.reduceLeDiff]; rfl) (vcE.block (vcE.count (by intro l tm hp h; simp at h) (fun i tm H => FJ (pickK a) (1 + pickK b) i H ∧ tm 5 = .ptr 4 0 ∧ tm 6 = .int .i64 (pickK a) ∧ tm 7 = .int .i64 (1 + pickK b) ∧ tm 8 = .int .i64 i) 200 ⟨⟨[], 0, hI, rfl⟩, ?_, ?_, ?_, ?_⟩ ?_ ?_))
    · simp only [upd_app, Nat.reduceEqDiff, ↓reduceIte]
    · simp only [upd_app, Nat.reduceEqDiff, ↓reduceIte]
    · simp only [upd_app, Nat.reduceEqDiff, ↓reduceIte, hw0]
    · simp only [upd_app, Nat.reduceEqDiff, ↓reduceIte]; rfl
    · rintro i tm H hi ⟨hJ, t5, t6, t7, t8⟩
      have hm1 : (0 : Int) ≤ i * (1 + pickK b) := Int.mul_nonneg (by omega) (by omega)
      have hm2 : (i : Int) * (1 + pickK b) ≤ 200 * 1000 := Int.mul_le_mul (by omega) (by omega) (by omega) (by omega)
      have hw1 : IntKind.wrap .i64 ((i : Int) * (1 + pickK b)) = (i : Int) * (1 + pickK b) := wrap_i64 (by omega) (by omega)
      have hw2 : IntKind.wrap .i64 (pickK a + (i : Int) * (1 + pickK b)) = pickK a + (i : Int) * (1 + pickK b) := wrap_i64 (by omega) (by omega)
      refine vcE.step (by simp (disch := first | assumption | omega) only [go_sem, ↓reduceIte, Nat.reduceEqDiff, reduceCtorEq, Nat.reduceAdd, Nat.reduceLeDiff, t8]; rfl) (vcE.seq (vcE.block ?_))
      rw [show r3_7 = r3_7.take 6 ++ ((r3_7.drop 6).take 1 ++ r3_7.drop 7) from rfl]
      refine vcE.seq (vcE.app (vcE.ex (by simp (disch := first | assumption | omega) only [go_sem, ↓reduceIte, Nat.reduceEqDiff, reduceCtorEq, Nat.reduceAdd, Nat.reduceLeDiff, t5, t6, t7, t8, ↓hw1, ↓hw2]; rfl) ⟨rfl, vcE.app (vcE.call (f := 11) (caps := []) (ys := [.ptr 4 0, .int .i64 (pickK a + (i : Int) * (1 + pickK b)), .str [97], .bool false]) rfl (by simp only [evsE, evE, upd_app, Nat.reduceEqDiff, ↓reduceIte]) (put_fj ra.1 (by omega) hi hJ) ?_)⟩))
      rintro r H ⟨rfl, hJ'⟩
      refine ⟨rfl, vcE.ex (by simp (disch := first | assumption | omega) only [go_sem, ↓reduceIte, Nat.reduceEqDiff, reduceCtorEq, Nat.reduceAdd, Nat.reduceLeDiff, putE]; rfl) ?_⟩
      refine vcE.ex (by simp (disch := first | assumption | omega) only [go_sem, ↓reduceIte, Nat.reduceEqDiff, reduceCtorEq, Nat.reduceAdd, Nat.reduceLeDiff]; rfl) ?_
      refine vcE.ex (by simp (disch := first | assumption | omega) only [go_sem, ↓reduceIte, Nat.reduceEqDiff, reduceCtorEq, Nat.reduceAdd, Nat.reduceLeDiff, t8]; rfl) ?_
      refine ⟨hJ', ?_, ?_, ?_, ?_⟩
      all_goals simp only [upd_app, Nat.reduceEqDiff, ↓reduceIte, t5, t6, t7]
      rfl
    · rintro tm H ⟨hJ, t5, t6, t7, t8⟩
      refine vcE.ex (by simp (disch := first | assumption | omega) only [go_sem, ↓reduceIte, Nat.reduceEqDiff, reduceCtorEq, Nat.reduceAdd, Nat.reduceLeDiff, t8]; rfl) ?_
      refine ⟨rfl, hJ, ?_, ?_, ?_⟩
      all_goals simp only [upd_app, Nat.reduceEqDiff, ↓reduceIte, t5, t6, t7]
  rintro e' tm H ⟨rfl, ⟨E, sl, hE, he⟩, t5, t6, t7⟩
  have hl : E.length = 200 := by
    have := congrArg List.length he
    rwa [List.length_map, idsF_len] at this
  rw [show r3_10 = r3_10.take 1 ++ ((r3_10.drop 1).take 1 ++ r3_10.drop 2) from rfl]
  refine vcE.seq (vcE.app (vcE.ex (by simp (disch := first | assumption | omega) only [go_sem, ↓reduceIte, Nat.reduceEqDiff, reduceCtorEq, Nat.reduceAdd, Nat.reduceLeDiff, t5]; rfl) ⟨rfl, vcE.app (vcE.call (f := 12) (caps := []) (ys := [.ptr 4 0, .str [97]]) rfl (by simp only [evsE, evE, upd_app, Nat.reduceEqDiff, ↓reduceIte]) (match_calls hE (by omega)) ?_)⟩))
  rintro r H2 ⟨id, rfl, hb, hid, hfr⟩
  refine ⟨rfl, vcE.ex (by simp (disch := first | assumption | omega) only [go_sem, ↓reduceIte, Nat.reduceEqDiff, reduceCtorEq, Nat.reduceAdd, Nat.reduceLeDiff, putE]; rfl) ?_⟩
  have h2 := hE.frame hfr
  have hsrt : srtL ltZ (E.map (·.1)) = idsF (pickK a) (1 + pickK b) 200 := srtL_eq swoZ ltZ_tot (by rw [he]) (idsF_pair (by omega) 200)
  rw [hsrt] at hb
  have hrow := hb.resolve_left (fun h => by have := congrArg List.length h; rw [idsF_len] at this; cases this)
  have hld : loadA H2 none (.ptr id 0) = some (.int .i64 (pickK a)) := encI.sl_load1 rfl hrow (i := 0) (by rw [idsF_cons]; rfl) rfl rfl
  have hbv : bld id E.length 1 = .sl id 0 200 1 200 false := by rw [hl]; rfl
  have hne : ∀ y ∈ E, y.1 ≠ pickK a + 200 * (1 + pickK b) := fun y hy => idsF_ne (by omega) (Nat.le_refl 200) _ (by rw [← he]; exact List.mem_map_of_mem hy)
  obtain ⟨y0, E', rfl⟩ : ∃ y0 E', E = y0 :: E' := by
    rcases E with _ | ⟨y0, E'⟩
    · cases hl
    · exact ⟨_, _, rfl⟩
  have he2 := he
  rw [idsF_cons, List.map_cons, List.cons.injEq] at he2
  obtain ⟨he0, he1⟩ := he2
  obtain ⟨i0, e0⟩ := y0
  simp only at he0
  subst he0
  have hl' : E'.length = 199 := by simpa using hl
  have hne' : ∀ y ∈ E', y.1 ≠ pickK a := fun y hy h => by
    have hm : y.1 ∈ E'.map (·.1) := List.mem_map_of_mem hy
    rw [he1] at hm
    obtain ⟨k, _, hk⟩ := List.mem_map.1 hm
    have := mul_mono1 (b := 1 + pickK b) (by omega) (i := 0) (j := k + 1) (by omega)
    omega
  have hw1 : IntKind.wrap .i64 (200 * (1 + pickK b)) = 200 * (1 + pickK b) := wrap_i64 (by omega) (by omega)
  have hw2 : IntKind.wrap .i64 (pickK a + 200 * (1 + pickK b)) = pickK a + 200 * (1 + pickK b) := wrap_i64 (by omega) (by omega)
  have hE2 := h2
  obtain ⟨hx, ⟨b1, c1, ha⟩, _, _, _, _, _⟩ := h2
  have t9 : AV.sl id 0 200 1 200 false = .sl id 0 200 1 200 false := rfl
  have hel : (entsI ((pickK a, e0) :: E')).length = 200 := by simp only [entsI, List.length_map]; exact hl
  rw [show r3_11 = r3_11.take 5 ++ ((r3_11.drop 5).take 1 ++ ((r3_11.drop 6).take 3 ++ ((r3_11.drop 9).take 1 ++ ((r3_11.drop 10).take 17 ++ ((r3_11.drop 27).take 1 ++ ((r3_11.drop 28).take 8 ++ ((r3_11.drop 36).take 1 ++ r3_11.drop 37))))))) from rfl]
  rw [hbv]
  refine vcE.seq (vcE.app (vcE.ex (by simp (disch := first | assumption | omega) only [go_sem, ↓reduceIte, Nat.reduceEqDiff, reduceCtorEq, Nat.reduceAdd, Nat.reduceLeDiff, t5, t6, t7, ↓hw1, ↓hw2]; rfl) ⟨rfl, vcE.app (vcE.call (f := 11) (caps := []) (ys := [.ptr 4 0, .int .i64 (pickK a + 200 * (1 + pickK b)), .str [97], .bool false]) rfl (by simp only [evsE, evE, putE, upd_app, Nat.reduceEqDiff, ↓reduceIte]) (put_full hx ha (by omega) (findI_none hne) (by rw [hel]; exact Nat.le_refl _)) ?_)⟩))
  rintro r H3 ⟨rfl, rfl⟩
  refine ⟨rfl, vcE.app (vcE.ex (by simp (disch := first | assumption | omega) only [go_sem, ↓reduceIte, Nat.reduceEqDiff, reduceCtorEq, Nat.reduceAdd, Nat.reduceLeDiff, putE, t5]; rfl) ⟨rfl, vcE.app (vcE.call (f := 13) (caps := []) (ys := [.ptr 4 0]) (by simp only [wantedE, upd_app, Nat.reduceEqDiff, ↓reduceIte]; rfl) (by simp only [evsE, evE, putE, upd_app, Nat.reduceEqDiff, ↓reduceIte]) (len_calls hx ha) ?_)⟩)⟩
  rintro r H3 ⟨rfl, rfl⟩
  have hel' : ((entsI ((pickK a, e0) :: E')).length : Int) = 200 := by rw [hel]; rfl
  rw [hel']
  have hia : iaddrA 1 (.sl id 0 200 1 200 false) (.int .i64 0) = some (.ptr id 0) := iaddr_sl1 (i := 0) (by omega)
  refine ⟨rfl, vcE.app (vcE.ex (by simp (disch := first | assumption | omega) only [exC, List.drop_succ_cons, List.drop_zero, List.take_succ_cons, List.take_zero, putE, exOps.eq_2, exOp, wantedE, ty, Nat.reduceEqDiff, ↓reduceIte, beq_self_eq_true, ROp.run, evsE, evE, same, binA, intA, decide_true, Option.map_some, exOps, tz, dec_true, hia, ↓hld, t6, t5]; rfl) ⟨rfl, vcE.app (vcE.call (f := 14) (caps := []) (ys := [.ptr 4 0, .int .i64 (pickK a)]) (by simp only [wantedE, upd_app, Nat.reduceEqDiff, ↓reduceIte]; rfl) (by simp only [evsE, evE, putE, upd_app, Nat.reduceEqDiff, ↓reduceIte, t5, t6]) (drop_calls hE2 (by omega) (by omega) hne') ?_)⟩)⟩
  rintro r H4 ⟨rfl, h4⟩
  refine ⟨rfl, vcE.app (vcE.ex (by simp (disch := first | assumption | omega) only [exC, List.drop_succ_cons, List.drop_zero, List.take_succ_cons, List.take_zero, putE, exOps.eq_2, exOp, wantedE, ty, Nat.reduceEqDiff, ↓reduceIte, beq_self_eq_true, ROp.run, evsE, evE, same, binA, intA, decide_true, Option.map_some, exOps, t5, t6, t7, ↓hw1, ↓hw2]; rfl) ⟨rfl, vcE.app (vcE.call (f := 11) (caps := []) (ys := [.ptr 4 0, .int .i64 (pickK a + 200 * (1 + pickK b)), .str [97], .bool false]) (by simp only [wantedE, upd_app, Nat.reduceEqDiff, ↓reduceIte]; rfl) (by simp only [evsE, evE, putE, upd_app, Nat.reduceEqDiff, ↓reduceIte, t5]) (put_again h4 (by omega) (fun y hy => hne y (List.mem_cons_of_mem _ hy)) (by omega) (by omega)) ?_)⟩)⟩
  rintro r H5 rfl
  refine ⟨rfl, vcE.ex (by simp (disch := first | assumption | omega) only [go_sem, ↓reduceIte, Nat.reduceEqDiff, reduceCtorEq, Nat.reduceAdd, Nat.reduceLeDiff, putE, decide_true]; rfl) ?_⟩
  refine vcE.ex (by simp (disch := first | assumption | omega) only [go_sem, ↓reduceIte, Nat.reduceEqDiff, reduceCtorEq, Nat.reduceAdd, Nat.reduceLeDiff]; rfl) ?_
  exact ⟨_, rfl, rfl⟩
end
end Go.Gi
