/- The law QueueScript returns true, wherever what it reads is of bulk at most 1048576, and its arguments read behind the call as they read before. -/
import Derived.Test.YtakdhioafodhcaaRows
import Derived.Test.YtakdhioafodhcaaGiQuZ
import Derived.Test.YtakdhioafodhcaaGiQuR
import Derived.Test.YtakdhioafodhcaaGiGB
import Derived.Deep.CondSized
import Derived.WalkKit
import Derived.ProofKit
import Derived.OpenShut
import Derived.ShutString
import Derived.ChangeOld
import Derived.Below
import Derived.SizedLaws
import Derived.Carry
namespace Go.Proofs.Ytakdhioafodhcaa.queueScriptUpto
open Go.ChangeShapes Go.WideShapes Go.ChangeAt Go.RowKit
open Go.ChangeMaps (open_string shut_string)
set_option linter.unusedVariables false
theorem own : ownKnob Try.prog.godebug = none := by kernel_rfl
section
variable {H : Type}
theorem bulk_pos (d : DataW H) : 1 ≤ Rows.uptoBulk d := by
  cases d with
  | lit l => cases l <;> simp [Rows.uptoBulk]
  | _ => simp [Rows.uptoBulk]
theorem bulk_all : ∀ l : List (DataW H), l.length ≤ Rows.uptoBulkAll l ∧ ∀ d ∈ l, Rows.uptoBulk d ≤ Rows.uptoBulkAll l
  | [] => by simp [Rows.uptoBulkAll]
  | d :: l => by
    have h := bulk_all l
    have h1 := bulk_pos d
    simp only [Rows.uptoBulkAll, List.length_cons]
    refine ⟨by omega, fun e he => ?_⟩
    rcases List.mem_cons.1 he with rfl | he
    · omega
    · have := h.2 e he
      omega
theorem keeps : Gi.KeepsB (fun d : DataW H => Rows.uptoBulk d ≤ 1048576) 1048576 where
  str s h := by simp only [Rows.uptoBulk] at h; omega
  slice es sp h := by
    simp only [Rows.uptoBulk] at h
    have := bulk_all es
    exact ⟨by omega, fun d hd => by have := this.2 d hd; omega⟩
  agg ps h := by
    simp only [Rows.uptoBulk] at h
    have := bulk_all ps
    exact fun d hd => by have := this.2 d hd; omega
end
set_option maxRecDepth 100000 in
theorem lifted (os : Os) (started : os.Started) (H : Type) (enc : TypeId × Value → H) (F0 : Stop.Interp) :
    ReturnsInHanded {} Try.checked os 6 .any ((Rows.OpenSpec.upto Rows.queueScriptSpec).pre6 enc Try.prog Try.f6 Rows.queueScriptUptoRow.domain false) (((Rows.OpenSpec.upto Rows.queueScriptSpec).at F0).post enc Try.prog Try.f6 false true false false) := by
  refine returnsInHanded_of_cond_sized (C := Try.checked) (s := (Rows.OpenSpec.upto Rows.queueScriptSpec)) (k := Rows.uptoSmall) rfl own started (by kernel_rfl) Try.func6
    (OpenSpec.witness (enc := enc) (C := Try.checked) (s := (Rows.OpenSpec.upto Rows.queueScriptSpec)) (k := Rows.uptoSmall) rfl false ⟨#[], #[.agg #[.slice none 0 0, .int .i64 0, .int .i64 0, .slice none 0 0, .slice none 0 0, .bool false], .slice none 0 0, .slice none 0 0, .int .i64 0], []⟩ 8 (by kernel_rfl) (by kernel_rfl) (by kernel_rfl) (x := ([.agg [.nil, .lit (.int .i64 0), .lit (.int .i64 0), .nil, .nil, .lit (.bool false)], .nil, .nil, .lit (.int .i64 0)], [], [])) (by kernel_rfl) (by kernel_rfl) (by kernel_rfl)) ?_
  intro W base args ds gs before hval0 hW _ hk _ _
  have hval : ∀ (j : Nat) t v, Try.f6.params[j]? = some t → args[j]? = some v → Value.okWide Try.prog W .any base t v := hval0
  have hW' := hW
  have hlt := hW.lt
  obtain ⟨p, q, hA0, hV, rfl, hfz, hnd⟩ := hW
  have hA : DataW.TrodAll enc Try.prog W 0 (fun _ => true) true Try.f6.params.toList args.toList ds p := hA0
  rw [Try.params6] at hA hval
  obtain ⟨v0, vs0, d0, ds0, ps0, qs0, hargs, rfl, rfl, h0, r0⟩ := trodAll_cons hA
  obtain ⟨v1, vs1, d1, ds1, ps1, qs1, rfl, rfl, rfl, h1, r1⟩ := trodAll_cons r0
  obtain ⟨v2, vs2, d2, ds2, ps2, qs2, rfl, rfl, rfl, h2, r2⟩ := trodAll_cons r1
  obtain ⟨v3, vs3, d3, ds3, ps3, qs3, rfl, rfl, rfl, h3, r3⟩ := trodAll_cons r2
  obtain ⟨rfl, rfl, rfl⟩ := trodAll_nil r3
  obtain rfl : args = #[v0, v1, v2, v3] := by cases args; simp_all
  obtain ⟨rfl, rfl⟩ := trodVars_none hV
  have hb : Rows.uptoBulkAll ([d0, d1, d2, d3] : List (DataW H)) ≤ 1048576 := by simpa [Rows.uptoSmall] using hk
  have hball := (bulk_all ([d0, d1, d2, d3] : List (DataW H))).2
  obtain ⟨x0, e0, p0⟩ := Gi.open_anyK (L := Gi.lcP Try.prog) (n := 6) keeps (by kernel_rfl) (hval 0 29 v0 rfl rfl) h0 (Nat.le_trans (hball d0 (by simp)) hb)
  obtain ⟨a0, rfl, j0, k0, l0⟩ := Gi.arg_que p0
  obtain ⟨x1, e1, p1⟩ := Gi.open_anyK (L := Gi.lcP Try.prog) (n := 6) keeps (by kernel_rfl) (hval 1 46 v1 rfl rfl) h1 (Nat.le_trans (hball d1 (by simp)) hb)
  obtain ⟨a1, rfl, c1⟩ := Gi.arg_calls p1
  obtain ⟨x2, e2, p2⟩ := Gi.open_anyK (L := Gi.lcP Try.prog) (n := 6) keeps (by kernel_rfl) (hval 2 60 v2 rfl rfl) h2 (Nat.le_trans (hball d2 (by simp)) hb)
  obtain ⟨a2, rfl, c2⟩ := Gi.arg_nums p2
  obtain ⟨x3, e3, p3⟩ := Gi.open_anyK (L := Gi.lcP Try.prog) (n := 6) keeps (by kernel_rfl) (hval 3 3 v3 rfl rfl) h3 (Nat.le_trans (hball d3 (by simp)) hb)
  obtain ⟨a3, rfl⟩ := Gi.arg_int p3
  clear hA0 hval0
  refine (Gi.law_of_pc (args := [v0, v1, v2, v3]) (Gi.lawScript a0 a1 a2 a3 ⟨by simp only [Gi.most]; omega, by simp only [Gi.most]; omega, by simp only [Gi.most]; omega⟩ (by omega) (by simp only [Gi.most]; omega)) W (by simp only [Gi.VRels]; exact ⟨_, _, rfl, e0, ⟨_, _, rfl, e1, ⟨_, _, rfl, e2, ⟨_, _, rfl, e3, rfl⟩⟩⟩⟩)).mono fun e W' ⟨he, bel⟩ => ?_
  subst he
  exact ⟨_, rfl, _, _, _, [], _, [], hW', trodAll_mk1 (shut_bool Try.underlying4 _), (trodAll_cons_mk (bel.trod (by kernel_rfl) (by kernel_rfl) (by decide) h0 (fun x hx => hlt x (List.mem_append_left _ (List.mem_append_left _ hx)))) (trodAll_cons_mk (bel.trod (by kernel_rfl) (by kernel_rfl) (by decide) h1 (fun x hx => hlt x (List.mem_append_left _ (List.mem_append_right _ (List.mem_append_left _ hx))))) (trodAll_cons_mk (bel.trod (by kernel_rfl) (by kernel_rfl) (by decide) h2 (fun x hx => hlt x (List.mem_append_left _ (List.mem_append_right _ (List.mem_append_right _ (List.mem_append_left _ hx)))))) (trodAll_cons_mk (bel.trod (by kernel_rfl) (by kernel_rfl) (by decide) h3 (fun x hx => hlt x (List.mem_append_left _ (List.mem_append_right _ (List.mem_append_right _ (List.mem_append_right _ (List.mem_append_left _ hx))))))) trodAll_mk0)))), rfl, bel.frame _, fun h => by cases h⟩
theorem over : Rows.queueScriptUptoRow.holds Try.pinned (Rows.OpenSpec.upto Rows.queueScriptSpec) :=
  OpenClaim.holds_of_cond 6 Try.f6 rfl rfl rfl rfl rfl rfl rfl ⟨rfl, rfl, rfl, rfl, rfl⟩ rfl rfl rfl rfl rfl (by kernel_rfl) Try.func6 (by kernel_rfl)
    (of_decide_eq_true (by kernel_rfl)) (by unfold Func.isWrapper; first | (rw [if_pos (by decide +kernel)]; kernel_rfl) | (rw [if_neg (by decide +kernel)]; exact ⟨rfl, rfl⟩))
    (fun os started H enc _ F => lifted os started H enc F)
theorem proved : Rows.QueueScriptUptoSaid := over
#print axioms proved
end Go.Proofs.Ytakdhioafodhcaa.queueScriptUpto
namespace Go.Proofs.Ytakdhioafodhcaa
/-- The row, under a short name, for the claim. -/
theorem queueScriptUpto_holds : Rows.QueueScriptUptoSaid := queueScriptUpto.proved
end Go.Proofs.Ytakdhioafodhcaa
