/- The law DfaCalls returns true, whatever its arguments are, and they read behind the call as they read before. No condition. -/
import Derived.Test.YtakdhioafodhcaaGreatRows
import Derived.Test.YtakdhioafodhcaaGreatGiCaK
import Derived.Test.YtakdhioafodhcaaGreatGiDfH
import Derived.WalkKit
import Derived.ProofKit
import Derived.OpenShut
import Derived.ShutString
import Derived.ChangeOld
import Derived.Below
import Derived.SizedLaws
import Derived.Carry
set_option linter.unusedVariables false
set_option linter.unusedSimpArgs false
set_option linter.unusedSectionVars false
namespace Go.Proofs.YtakdhioafodhcaaGreat.dfaCalls
open Go.ChangeShapes Go.WideShapes Go.ChangeAt Go.RowKit
open Go.ChangeMaps (open_string shut_string)
theorem own : ownKnob Tryz.prog.godebug = none := by kernel_rfl
set_option maxRecDepth 100000 in
theorem lifted (os : Os) (started : os.Started) (H : Type) (enc : TypeId × Value → H) :
  ReturnsInHanded {} Tryz.checked os 3 .any (Rows.dfaCallsSpec.pre6 enc Tryz.prog Tryz.f3 Rows.dfaCallsRow.domain false) (Rows.dfaCallsSpec.post enc Tryz.prog Tryz.f3 false true false false) := by
 refine returnsInHanded_of_change_sized (C := Tryz.checked) own started (by kernel_rfl) Tryz.func3
  (ChangeSpec.witness6 (enc := enc) (C := Tryz.checked) false ⟨#[], #[.string ByteArray.empty, .bool false, .int .i64 0, .agg #[.slice none 0 0, .slice none 0 0, .slice none 0 0], .agg #[.slice none 0 0, .slice none 0 0, .slice none 0 0], .string ByteArray.empty], []⟩ 8 (by kernel_rfl) (by kernel_rfl) (by kernel_rfl) (by kernel_rfl)) ?_
 intro W base args ds gs before hval0 hW hcnd hsz0 _
 have hsz : (DataW.weightsEach Tryz.prog (Tryz.f3.params.toList ++ Rows.dfaCallsSpec.plain.varTypes Tryz.prog) (ds ++ gs)).all (· ≤ reachBytes) = true := hsz0
 have hval : ∀ (j : Nat) t v, Tryz.f3.params[j]? = some t → args[j]? = some v → Value.okWide Tryz.prog W .any base t v := hval0
 have hW' := hW
 have hlt := hW.lt
 obtain ⟨p, q, hA0, hV, rfl, hfz, hnd⟩ := hW
 have hA : DataW.TrodAll enc Tryz.prog W 0 (fun _ => true) true Tryz.f3.params.toList args.toList ds p := hA0
 rw [Tryz.params3] at hA hval hsz
 obtain ⟨v0, vs0, d0, ds0, ps0, qs0, hargs, rfl, rfl, h0, r0⟩ := trodAll_cons hA
 obtain ⟨v1, vs1, d1, ds1, ps1, qs1, rfl, rfl, rfl, h1, r1⟩ := trodAll_cons r0
 obtain ⟨v2, vs2, d2, ds2, ps2, qs2, rfl, rfl, rfl, h2, r2⟩ := trodAll_cons r1
 obtain ⟨v3, vs3, d3, ds3, ps3, qs3, rfl, rfl, rfl, h3, r3⟩ := trodAll_cons r2
 obtain ⟨v4, vs4, d4, ds4, ps4, qs4, rfl, rfl, rfl, h4, r4⟩ := trodAll_cons r3
 obtain ⟨v5, vs5, d5, ds5, ps5, qs5, rfl, rfl, rfl, h5, r5⟩ := trodAll_cons r4
 obtain ⟨rfl, rfl, rfl⟩ := trodAll_nil r5
 obtain rfl : args = #[v0, v1, v2, v3, v4, v5] := by cases args; simp_all
 obtain ⟨rfl, rfl⟩ := trodVars_none hV
 obtain ⟨x0, e0, p0⟩ := Gi.open_any (L := Gi.lcP Tryz.prog) (n := 6) (by kernel_rfl) (hval 0 9 v0 rfl rfl) h0 (fun m hm => by have := List.all_eq_true.1 hsz m (DataW.weights_mem_each (j := 0) rfl rfl m hm); simpa using this)
 obtain ⟨a0, rfl, c0⟩ := Gi.has_str Tryz.underlying9 p0
 obtain ⟨x1, e1, p1⟩ := Gi.open_any (L := Gi.lcP Tryz.prog) (n := 6) (by kernel_rfl) (hval 1 4 v1 rfl rfl) h1 (fun m hm => by have := List.all_eq_true.1 hsz m (DataW.weights_mem_each (j := 1) rfl rfl m hm); simpa using this)
 obtain ⟨a1, rfl⟩ := Gi.has_bool Tryz.underlying4 p1
 obtain ⟨x2, e2, p2⟩ := Gi.open_any (L := Gi.lcP Tryz.prog) (n := 6) (by kernel_rfl) (hval 2 3 v2 rfl rfl) h2 (fun m hm => by have := List.all_eq_true.1 hsz m (DataW.weights_mem_each (j := 2) rfl rfl m hm); simpa using this)
 obtain ⟨a2, rfl, c2⟩ := Gi.has_int Tryz.underlying3 p2
 obtain ⟨x3, e3, p3⟩ := Gi.open_any (L := Gi.lcP Tryz.prog) (n := 6) (by kernel_rfl) (hval 3 26 v3 rfl rfl) h3 (fun m hm => by have := List.all_eq_true.1 hsz m (DataW.weights_mem_each (j := 3) rfl rfl m hm); simpa using this)
 obtain ⟨a3, rfl, c3⟩ := Gi.arg_dfa p3
 obtain ⟨x4, e4, p4⟩ := Gi.open_any (L := Gi.lcP Tryz.prog) (n := 6) (by kernel_rfl) (hval 4 26 v4 rfl rfl) h4 (fun m hm => by have := List.all_eq_true.1 hsz m (DataW.weights_mem_each (j := 4) rfl rfl m hm); simpa using this)
 obtain ⟨a4, rfl, c4⟩ := Gi.arg_dfa p4
 obtain ⟨x5, e5, p5⟩ := Gi.open_any (L := Gi.lcP Tryz.prog) (n := 6) (by kernel_rfl) (hval 5 9 v5 rfl rfl) h5 (fun m hm => by have := List.all_eq_true.1 hsz m (DataW.weights_mem_each (j := 5) rfl rfl m hm); simpa using this)
 obtain ⟨a5, rfl, c5⟩ := Gi.has_str Tryz.underlying9 p5
 clear hA0 hval0 hsz0 hsz
 refine (Gi.law_of_pc (args := [v0, v1, v2, v3, v4, v5]) (Gi.lawDCalls a0 a1 a2 a3 a4 a5 (Nat.le_trans c3 (by decide)) (Nat.le_trans c4 (by decide))) W (by simp only [Gi.VRels]; exact ⟨_, _, rfl, e0, ⟨_, _, rfl, e1, ⟨_, _, rfl, e2, ⟨_, _, rfl, e3, ⟨_, _, rfl, e4, ⟨_, _, rfl, e5, rfl⟩⟩⟩⟩⟩⟩)).mono fun e W' ⟨he, bel⟩ => ?_
 subst he
 exact ⟨_, rfl, _, _, _, [], _, [], hW', trodAll_mk1 (shut_bool Tryz.underlying4 _), (trodAll_cons_mk (bel.trod (by kernel_rfl) (by kernel_rfl) (by decide) h0 (fun x hx => hlt x (List.mem_append_left _ (List.mem_append_left _ hx)))) (trodAll_cons_mk (bel.trod (by kernel_rfl) (by kernel_rfl) (by decide) h1 (fun x hx => hlt x (List.mem_append_left _ (List.mem_append_right _ (List.mem_append_left _ hx))))) (trodAll_cons_mk (bel.trod (by kernel_rfl) (by kernel_rfl) (by decide) h2 (fun x hx => hlt x (List.mem_append_left _ (List.mem_append_right _ (List.mem_append_right _ (List.mem_append_left _ hx)))))) (trodAll_cons_mk (bel.trod (by kernel_rfl) (by kernel_rfl) (by decide) h3 (fun x hx => hlt x (List.mem_append_left _ (List.mem_append_right _ (List.mem_append_right _ (List.mem_append_right _ (List.mem_append_left _ hx))))))) (trodAll_cons_mk (bel.trod (by kernel_rfl) (by kernel_rfl) (by decide) h4 (fun x hx => hlt x (List.mem_append_left _ (List.mem_append_right _ (List.mem_append_right _ (List.mem_append_right _ (List.mem_append_right _ (List.mem_append_left _ hx)))))))) (trodAll_cons_mk (bel.trod (by kernel_rfl) (by kernel_rfl) (by decide) h5 (fun x hx => hlt x (List.mem_append_left _ (List.mem_append_right _ (List.mem_append_right _ (List.mem_append_right _ (List.mem_append_right _ (List.mem_append_right _ (List.mem_append_left _ hx))))))))) trodAll_mk0)))))), rfl, bel.frame _, fun h => by cases h⟩
theorem over : Rows.dfaCallsRow.holds Tryz.pinned (OpenSpec.ofChange Rows.dfaCallsSpec) :=
 OpenClaim.holds_of_wide 3 Tryz.f3 rfl rfl rfl rfl rfl rfl rfl ⟨rfl, rfl, rfl, rfl, rfl⟩ rfl rfl rfl rfl rfl (by kernel_rfl) Tryz.func3 (by kernel_rfl)
  (of_decide_eq_true (by kernel_rfl)) (by unfold Func.isWrapper; first | (rw [if_pos (by decide +kernel)]; kernel_rfl) | (rw [if_neg (by decide +kernel)]; exact ⟨rfl, rfl⟩))
  (fun os started H enc _ => lifted os started H enc)
theorem proved : Rows.DfaCallsSaid := over
#print axioms proved
end Go.Proofs.YtakdhioafodhcaaGreat.dfaCalls
namespace Go.Proofs.YtakdhioafodhcaaGreat
theorem dfaCalls_holds : Rows.DfaCallsSaid := dfaCalls.proved
end Go.Proofs.YtakdhioafodhcaaGreat
