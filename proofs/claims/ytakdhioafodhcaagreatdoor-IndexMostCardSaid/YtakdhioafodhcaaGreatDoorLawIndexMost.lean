/- The law IndexMost returns true, whatever its arguments are, and they read behind the call as they read before; and its card. No condition. -/
import Derived.Test.YtakdhioafodhcaaGreatDoorRows
import Derived.Test.YtakdhioafodhcaaGreatDoorCards
import Derived.Test.YtakdhioafodhcaaGreatDoorTie
import Derived.Test.YtakdhioafodhcaaGreatDoorGiIyO
import Derived.Test.YtakdhioafodhcaaGreatDoorGiIyN
import Derived.WalkKit
import Derived.ProofKit
import Derived.OpenShut
import Derived.ShutString
import Derived.ChangeOld
import Derived.Below
import Derived.SizedLaws
import Derived.Carry
import Derived.Lay
import Derived.LaidMore
import Derived.LaidOnce
import Derived.SevenTiedAt
import Derived.Lib.LaidU8T
namespace Go.Proofs.YtakdhioafodhcaaGreatDoor.indexMost
open Go.ChangeShapes Go.WideShapes Go.ChangeAt Go.RowKit Go.Lib
set_option linter.unusedVariables false
theorem own : ownKnob Tryz.prog.godebug = none := by kernel_rfl
def laid : List (String × DataW Unit) := [("unicode/utf8.acceptRanges", Rows.laid_unicode_utf8_acceptRanges), ("unicode/utf8.first", Rows.laid_unicode_utf8_first)]
def ren : Go.Shelf.Ren := ⟨fun x => x, fun x => if x = 5 then 5 else if x = 119 then 174 else if x = 138 then 176 else 177, fun x => if x = 3 then 1 else 2⟩
set_option maxRecDepth 100000 in
theorem acc_eq : Rows.laid_unicode_utf8_acceptRanges = (Lib.acceptData : DataW Unit) := by kernel_rfl
set_option maxRecDepth 100000 in
theorem first_eq : Rows.laid_unicode_utf8_first = Lib.firstData := by kernel_rfl
theorem types : U8Types Tryz.prog ren := ⟨by kernel_rfl, by kernel_rfl, by kernel_rfl, by kernel_rfl⟩
theorem tabs {W : World} (h : laidMetH Tryz.prog laid W) : Lib.Utf8Tabs 1 2 W := by
 rw [MakeChecks.laidMetH_plain _ _ _ (by kernel_rfl)] at h
 have h1 := Lib.laidMet.reads h (n := "unicode/utf8.acceptRanges") (.head _)
 have h2 := Lib.laidMet.reads h (n := "unicode/utf8.first") (.tail _ (.head _))
 rw [acc_eq] at h1
 rw [first_eq] at h2
 exact utf8Tabs_of_readsT types ⟨by kernel_rfl, by kernel_rfl, by kernel_rfl, by kernel_rfl, by kernel_rfl, by kernel_rfl, by kernel_rfl⟩ h2 h1
set_option maxRecDepth 100000 in
theorem acc_list [Gi.Mx] : Gi.gv 2 = (List.range 32).map fun i => Gi.AV.int .u8 (if i % 2 = 0 then (accLo (i / 2) : Int) else (accHi (i / 2) : Int)) := by kernel_rfl
theorem first_nt : ∀ c : Fin 256, Gi.firstN c.val = (firstT c.val : Int) := by decide +kernel
theorem cell_lt {W : World} {g o : Nat} {v : Value} (h : W.cell? ⟨g, o, none⟩ = some v) : g < W.heap.size := by
 simp only [World.cell?] at h
 cases hh : W.heap[g]? with
 | none => rw [hh] at h; cases h
 | some ob => exact (Array.getElem?_eq_some_iff.1 hh).1
theorem gok [mx : Gi.Mx] {W : World} (h : Lib.Utf8Tabs 1 2 W) (hm : W.cell? ⟨0, 0, none⟩ = some (.int .i64 mx.m)) : Gi.GOk (Gi.base (Gi.lcP Tryz.prog) W) := by
 have key : ∀ (g : Nat) (cs : List Gi.AV), g < W.heap.size → (∀ i a, cs[i]? = some a → ∃ k n, a = .int k n ∧ W.cell? ⟨g, i, none⟩ = some (.int k n)) → Gi.VRel (Gi.base (Gi.lcP Tryz.prog) W) (.fptr cs 0) (.pointer (some ⟨g, 0, none⟩)) := by
  intro g cs hg hcs
  simp only [Gi.VRel]
  refine ⟨g, 0, rfl, hg, Gi.CellsAt.of fun i a ha => ?_⟩
  obtain ⟨k, n, rfl, h1⟩ := hcs i a ha
  exact ⟨_, by rw [Nat.zero_add]; exact h1, rfl, by simp only [Gi.VRel]⟩
 refine ⟨fun x hx => ?_, fun x hx => by cases hx⟩
 unfold Gi.globals at hx
 rcases List.mem_cons.1 hx with rfl | hx
 ·refine key _ _ (cell_lt hm) fun i a ha => ?_
  match i, ha with
  | 0, ha => simp at ha; subst ha; exact ⟨_, _, rfl, hm⟩
  | i + 1, ha => simp at ha
 rcases List.mem_cons.1 hx with rfl | hx
 ·refine key _ (Gi.gv 1) (cell_lt (h.1 0 (by omega))) fun i a ha => ?_
  rw [Gi.gv1, List.getElem?_map] at ha
  obtain ⟨n, hn, rfl⟩ := Option.map_eq_some_iff.1 ha
  obtain ⟨hi, rfl⟩ : i < 256 ∧ n = i := by
   have hi : i < 256 := by simpa using (List.getElem?_eq_some_iff.1 hn).1
   rw [List.getElem?_range hi] at hn
   exact ⟨hi, (Option.some.inj hn).symm⟩
  refine ⟨_, _, rfl, ?_⟩
  rw [h.1 n hi, first_nt ⟨n, hi⟩]
 rcases List.mem_cons.1 hx with rfl | hx
 ·refine key _ (Gi.gv 2) (cell_lt (h.2 0 (by omega)).1) fun i a ha => ?_
  rw [acc_list, List.getElem?_map] at ha
  obtain ⟨n, hn, rfl⟩ := Option.map_eq_some_iff.1 ha
  obtain ⟨hi, rfl⟩ : i < 32 ∧ n = i := by
   have hi : i < 32 := by simpa using (List.getElem?_eq_some_iff.1 hn).1
   rw [List.getElem?_range hi] at hn
   exact ⟨hi, (Option.some.inj hn).symm⟩
  refine ⟨_, _, rfl, ?_⟩
  have hk := h.2 (n / 2) (by omega)
  by_cases he : n % 2 = 0
  ·rw [if_pos he, ← hk.1, show 2 * (n / 2) = n by omega]
  ·rw [if_neg he, ← hk.2, show 2 * (n / 2) + 1 = n by omega]
 ·cases hx
set_option maxRecDepth 100000 in
theorem max_cell {W : World} (h : W.ShapedOpen Tryz.prog) : ∃ m : Int, W.cell? ⟨0, 0, none⟩ = some (.int .i64 m) := by
 obtain ⟨cs, h1, h2, h3⟩ := h.1 0 #[.int .i64 0] 3 (of_decide_eq_true (by kernel_rfl)) (by kernel_rfl)
 obtain ⟨ts, k1, _, k2⟩ := h3 (by kernel_rfl)
 have e : Tryz.prog.cellTypes Tryz.prog.depth 3 = some [3] := by kernel_rfl
 rw [e] at k1
 cases k1
 have hs : cs.size = 1 := h2
 have hc : cs[0]? = some cs[0] := by simp [hs]
 obtain ⟨u, q1, q2⟩ := k2 0 _ hc
 simp at q1
 subst q1
 unfold Cell.ok at q2
 rw [Tryz.underlying3] at q2
 split at q2 <;> simp_all [World.cell?]
set_option maxRecDepth 100000 in
theorem handed {os : Os} {f : FuncId} {fn : Func} {H : Type} {enc : TypeId × Value → H} {s : ChangeSpec} {X : World → Array Value → Prop} (hX : ∀ (w w' : World) (args : Array Value), w.heap = w'.heap → X w args → X w' args)
  (started : os.Started) (noInit : Tryz.checked.prog.inits.idxOf? f = none) (hfn : Tryz.checked.prog.funcs[f]? = some fn)
  (witness : ∃ (w : World) (tape : Tape) (i : Input), w.os = os ∧ (w.forCall tape i).Shaped Tryz.checked.prog ∧ i.vars = [] ∧ Input.okWide Tryz.checked.prog (w.forCall tape i) .any w.heap.size f i ∧
   ((s.pre enc Tryz.checked.prog fn [] false (w.forCall tape i).memory i.args ∧ X (w.forCall tape i).memory i.args) ∧ sizedMet enc Tryz.checked.prog fn (OpenSpec.ofChange s) false (w.forCall tape i).memory i.args) ∧ ({} : Assume).holds Tryz.checked.prog (lone (Frame.enter Tryz.checked.prog f i.args .normal) [] (w.forCall tape i)))
  (contract : ∀ (W : World) (base : Nat) (args : Array Value) (ds gs : List (DataW H)) (before : List MemPlace), W.ShapedOpen Tryz.checked.prog →
   (∀ (j : Nat) t v, fn.params[j]? = some t → args[j]? = some v → Value.okWide Tryz.checked.prog W .any base t v) →
   DataW.Whole enc Tryz.checked.prog fn.params.toList s.vars false W args.toList ds gs before →
   (DataW.weightsEach Tryz.checked.prog (fn.params.toList ++ s.plain.varTypes Tryz.checked.prog) (ds ++ gs)).all (· ≤ reachBytes) = true → X W args →
   Calls Tryz.checked.prog f args W fun e W' => ∃ v, e = .returned v ∧ s.post enc Tryz.checked.prog fn false true false false W args v W') :
  ReturnsInHanded {} Tryz.checked os f .any (fun w args => (s.pre enc Tryz.checked.prog fn [] false w args ∧ X w args) ∧ sizedMet enc Tryz.checked.prog fn (OpenSpec.ofChange s) false w args) (s.post enc Tryz.checked.prog fn false true false false) := by
 refine returnsInHanded_of_calls own started noInit witness fun w tape i _ shape _ ok pre _ => ?_
 obtain ⟨_, _, _, fn', hfn', _, _, _, _, hval⟩ := ok
 obtain rfl : fn' = fn := Option.some.inj (hfn'.symm.trans hfn)
 obtain ⟨⟨⟨ds, gs, before, whole, _⟩, hx⟩, sized⟩ := pre
 exact (contract _ w.heap.size i.args ds gs before shape hval (DataW.Whole.of_heap (w' := w.forCall tape i) (by rfl) whole) (sized.weights whole) (hX _ _ _ (by rfl) hx)).mono fun e W' ⟨v, he, hp⟩ => by
  subst he
  exact ChangeSpec.post_blind hp
set_option maxRecDepth 100000 in
theorem lifted (os : Os) (started : os.Started) (H : Type) (enc : TypeId × Value → H) :
  ReturnsInHanded {} Tryz.checked os 7 .any (fun w args => (Rows.indexMostSpec.pre enc Tryz.prog Tryz.f7 [] false w args ∧ laidMetH Tryz.prog laid w) ∧ sizedMet enc Tryz.prog Tryz.f7 (OpenSpec.ofChange Rows.indexMostSpec) false w args)
   (Rows.indexMostSpec.post enc Tryz.prog Tryz.f7 false true false false) := by
 refine handed (X := fun w _ => laidMetH Tryz.prog laid w) (fun _ _ _ hh h => h.of_heap hh) started (by kernel_rfl) Tryz.func7
  (ChangeSpec.witness_shaped (enc := enc) (C := Tryz.checked) (os := os) (X := fun w _ => laidMetH Tryz.prog laid w) false (World.laidAll Tryz.prog os laid) #[.int .i64 0, .int .i64 0, .slice none 0 0, .string ByteArray.empty] 8 (World.laidAll_os _ _ _)
   (World.shaped_of_ZipB (by kernel_rfl) (by kernel_rfl)) (by kernel_rfl) (by kernel_rfl) (by kernel_rfl)
   (by rw [MakeChecks.laidMetH_plain _ _ _ (by kernel_rfl)]; exact laidMet_laidAll _ (by kernel_rfl) (by kernel_rfl))) ?_
 intro W base args ds gs before hsh hval0 hW hsz0 hL
 have hsz : (DataW.weightsEach Tryz.prog (Tryz.f7.params.toList ++ Rows.indexMostSpec.plain.varTypes Tryz.prog) (ds ++ gs)).all (· ≤ reachBytes) = true := hsz0
 have hval : ∀ (j : Nat) t v, Tryz.f7.params[j]? = some t → args[j]? = some v → Value.okWide Tryz.prog W .any base t v := hval0
 have hW' := hW
 have hlt := hW.lt
 obtain ⟨p, q, hA0, hV, rfl, hfz, hnd⟩ := hW
 have hA : DataW.TrodAll enc Tryz.prog W 0 (fun _ => true) true Tryz.f7.params.toList args.toList ds p := hA0
 rw [Tryz.params7] at hA hval hsz
 obtain ⟨v0, vs0, d0, ds0, ps0, qs0, hargs, rfl, rfl, h0, r0⟩ := trodAll_cons hA
 obtain ⟨v1, vs1, d1, ds1, ps1, qs1, rfl, rfl, rfl, h1, r1⟩ := trodAll_cons r0
 obtain ⟨v2, vs2, d2, ds2, ps2, qs2, rfl, rfl, rfl, h2, r2⟩ := trodAll_cons r1
 obtain ⟨v3, vs3, d3, ds3, ps3, qs3, rfl, rfl, rfl, h3, r3⟩ := trodAll_cons r2
 obtain ⟨rfl, rfl, rfl⟩ := trodAll_nil r3
 obtain rfl : args = #[v0, v1, v2, v3] := by cases args; simp_all
 obtain ⟨rfl, rfl⟩ := trodVars_none hV
 obtain ⟨mx, hmx⟩ := max_cell hsh
 letI : Gi.Mx := ⟨mx⟩
 obtain ⟨x0, e0, p0⟩ := Gi.open_any (L := Gi.lcP Tryz.prog) (n := 6) (by kernel_rfl) (hval 0 3 v0 rfl rfl) h0 (fun m hm => by have := List.all_eq_true.1 hsz m (DataW.weights_mem_each (j := 0) rfl rfl m hm); simpa using this)
 obtain ⟨a0, rfl, _, _⟩ := Gi.has_int Tryz.underlying3 p0
 obtain ⟨x1, e1, p1⟩ := Gi.open_any (L := Gi.lcP Tryz.prog) (n := 6) (by kernel_rfl) (hval 1 3 v1 rfl rfl) h1 (fun m hm => by have := List.all_eq_true.1 hsz m (DataW.weights_mem_each (j := 1) rfl rfl m hm); simpa using this)
 obtain ⟨a1, rfl, _, _⟩ := Gi.has_int Tryz.underlying3 p1
 obtain ⟨x2, e2, p2⟩ := Gi.open_any (L := Gi.lcP Tryz.prog) (n := 6) (by kernel_rfl) (hval 2 33 v2 rfl rfl) h2 (fun m hm => by have := List.all_eq_true.1 hsz m (DataW.weights_mem_each (j := 2) rfl rfl m hm); simpa using this)
 obtain ⟨a2, rfl, l2⟩ := Gi.arg_acts p2
 obtain ⟨x3, e3, p3⟩ := Gi.open_any (L := Gi.lcP Tryz.prog) (n := 6) (by kernel_rfl) (hval 3 9 v3 rfl rfl) h3 (fun m hm => by have := List.all_eq_true.1 hsz m (DataW.weights_mem_each (j := 3) rfl rfl m hm); simpa using this)
 obtain ⟨a3, rfl, _⟩ := Gi.has_str Tryz.underlying9 p3
 clear hA0 hval0 hsz0 hsz
 refine (Gi.law_of_pc (args := [v0, v1, v2, v3]) ((Gi.lawIMost a0 a1 a2 (Nat.le_trans l2 (by decide)) a3)) W (by simp only [Gi.VRels]; exact ⟨_, _, rfl, e0, ⟨_, _, rfl, e1, ⟨_, _, rfl, e2, ⟨_, _, rfl, e3, rfl⟩⟩⟩⟩) (gok (tabs hL) hmx)).mono fun e W' ⟨he, bel⟩ => ?_
 subst he
 exact ⟨_, rfl, _, _, _, [], _, [], hW', trodAll_mk1 (shut_bool Tryz.underlying4 _), (trodAll_cons_mk (bel.trod (by kernel_rfl) (by kernel_rfl) (by decide) h0 (fun x hx => hlt x (List.mem_append_left _ (List.mem_append_left _ hx)))) (trodAll_cons_mk (bel.trod (by kernel_rfl) (by kernel_rfl) (by decide) h1 (fun x hx => hlt x (List.mem_append_left _ (List.mem_append_right _ (List.mem_append_left _ hx))))) (trodAll_cons_mk (bel.trod (by kernel_rfl) (by kernel_rfl) (by decide) h2 (fun x hx => hlt x (List.mem_append_left _ (List.mem_append_right _ (List.mem_append_right _ (List.mem_append_left _ hx)))))) (trodAll_cons_mk (bel.trod (by kernel_rfl) (by kernel_rfl) (by decide) h3 (fun x hx => hlt x (List.mem_append_left _ (List.mem_append_right _ (List.mem_append_right _ (List.mem_append_right _ (List.mem_append_left _ hx))))))) trodAll_mk0)))), rfl, bel.frame _, fun h => by cases h⟩
theorem over : Rows.indexMostRow.holds Tryz.pinned (OpenSpec.ofChange Rows.indexMostSpec) :=
 OpenClaim.holds_of_wide 7 Tryz.f7 rfl rfl rfl rfl rfl rfl rfl ⟨rfl, rfl, rfl, rfl, rfl⟩ rfl rfl rfl rfl rfl (by kernel_rfl) Tryz.func7 (by kernel_rfl)
  (of_decide_eq_true (by kernel_rfl)) (by unfold Func.isWrapper; first | (rw [if_pos (by decide +kernel)]; kernel_rfl) | (rw [if_neg (by decide +kernel)]; exact ⟨rfl, rfl⟩))
  (fun os started H enc _ => lifted os started H enc)
theorem card_holds : Claim7.holds Tryz.pinned (.plain (OpenSpec.ofChange Rows.indexMostSpec)) Rows.indexMostCard :=
 Claim7.holds_tied_plain_at .later [] [.data, .pinned] true (true, "d4a5c5ee53bca607cb2afc88d2cb2fe4a1c374e686afea724a8a8765928c9d95") false over (fun _ h => by cases h) (by kernel_rfl) (fun _ h => by cases h) indexMost_row_tie rfl ⟨rfl, rfl⟩ (by kernel_rfl) rfl
  (fun f fn hf hfn => by
   obtain rfl : f = 7 := Option.some.inj ((show Tryz.prog.funcNamed "outlaw/outlawlaw10.IndexMost" = some 7 by kernel_rfl).symm.trans hf) |>.symm
   obtain rfl : fn = Tryz.f7 := (Option.some.inj (Tryz.func7.symm.trans hfn)).symm
   exact ⟨by kernel_rfl, fun j t ht => by
    rw [Tryz.params7] at ht
    match j, ht with
    | 0, ht => simp at ht; subst ht; exact (show Tryz.prog.wantsStandIn 3 = false by kernel_rfl)
    | 1, ht => simp at ht; subst ht; exact (show Tryz.prog.wantsStandIn 3 = false by kernel_rfl)
    | 2, ht => simp at ht; subst ht; exact (show Tryz.prog.wantsStandIn 33 = false by kernel_rfl)
    | 3, ht => simp at ht; subst ht; exact (show Tryz.prog.wantsStandIn 9 = false by kernel_rfl)
    | j + 4, ht => simp at ht⟩)
  (by kernel_rfl)
theorem proved : Rows.IndexMostCardSaid := card_holds
#print axioms proved
end Go.Proofs.YtakdhioafodhcaaGreatDoor.indexMost
namespace Go.Proofs.YtakdhioafodhcaaGreatDoor
theorem indexMost_holds : Rows.IndexMostCardSaid := indexMost.proved
end Go.Proofs.YtakdhioafodhcaaGreatDoor
