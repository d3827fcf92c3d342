/- Arguments of the laws of queues: actions, queues, calls. -/
import Derived.Test.YtakdhioafodhcaaGiQuT
import Derived.Test.YtakdhioafodhcaaGiGB
set_option linter.unusedVariables false
set_option linter.unusedSimpArgs false
set_option maxRecDepth 100000
namespace Go.Gi
open Go Go.Proofs

theorem act_has {B n : Nat} {bs : List AV} (h : HasTB Try.prog B (n + 2) 23 bs) : ∃ a : Act, bs = encA.c a := by
  simp only [HasTB, Try.underlying23, Try.underlying3, Try.underlying9, hasFs] at h
  obtain ⟨_, _, rfl, ⟨k, rfl, _⟩, _, _, rfl, ⟨s1, rfl, _⟩, _, _, rfl, ⟨s2, rfl, _⟩, _, _, rfl, ⟨s3, rfl, _⟩, _, _, rfl, ⟨s4, rfl, _⟩, rfl⟩ := h
  exact ⟨⟨k, s1, s2, s3, s4⟩, rfl⟩
theorem arg_act {B n : Nat} {x : AV} (h : HasVB Try.prog B (n + 2) 23 x) : ∃ a : Act, x = .agg a.c := by
  simp only [HasVB, Try.underlying23] at h
  obtain ⟨bs, rfl, h⟩ := h
  obtain ⟨a, rfl⟩ := act_has h
  exact ⟨a, rfl⟩
theorem job_has {B n : Nat} {bs : List AV} (h : HasTB Try.prog B (n + 3) 42 bs) : ∃ j : Job, bs = encJ.c j := by
  simp only [HasTB, Try.underlying42, Try.underlying2, Try.underlying3, Try.underlying4, Try.underlying23, Try.underlying9, hasFs] at h
  obtain ⟨_, _, rfl, ⟨x, rfl, _⟩, _, _, rfl, ⟨_, _, rfl, ⟨k, rfl, _⟩, _, _, rfl, ⟨s1, rfl, _⟩, _, _, rfl, ⟨s2, rfl, _⟩, _, _, rfl, ⟨s3, rfl, _⟩, _, _, rfl, ⟨s4, rfl, _⟩, rfl⟩, _, _, rfl, ⟨f, rfl⟩, _, _, rfl, ⟨d, rfl⟩, _, _, rfl, ⟨t, rfl, _⟩, _, _, rfl, ⟨m, rfl, _⟩, rfl⟩ := h
  exact ⟨⟨x, ⟨k, s1, s2, s3, s4⟩, f, d, t, m⟩, rfl⟩
theorem arg_que {B n : Nat} {x : AV} (h : HasVB Try.prog B (n + 5) 29 x) : ∃ q : Que, x = .agg q.c ∧ q.jobs.length ≤ B ∧ q.failed.length ≤ B ∧ q.settled.length ≤ B := by
  simp only [HasVB, Try.underlying29] at h
  obtain ⟨bs, rfl, h⟩ := h
  rw [HasTB] at h
  simp only [Try.underlying29, hasFs] at h
  obtain ⟨_, _, rfl, h1, _, _, rfl, h2, _, _, rfl, h3, _, _, rfl, h4, _, _, rfl, h5, _, _, rfl, h6, rfl⟩ := h
  obtain ⟨js, rfl, l1⟩ := hasTB_slice encJ Try.underlying26 (fun bs h => job_has h) h1
  simp only [HasTB, Try.underlying2] at h2 h3
  obtain ⟨x, rfl, _⟩ := h2
  obtain ⟨y, rfl, _⟩ := h3
  obtain ⟨fs, rfl, l2⟩ := hasTB_slice encA Try.underlying27 (fun bs h => act_has h) h4
  obtain ⟨ss, rfl, l3⟩ := hasTB_slice encA Try.underlying27 (fun bs h => act_has h) h5
  simp only [HasTB, Try.underlying4] at h6
  obtain ⟨r, rfl⟩ := h6
  exact ⟨⟨js, x, y, fs, ss, r⟩, rfl, l1, l2, l3⟩
theorem arg_int {B n : Nat} {x : AV} (h : HasVB Try.prog B (n + 1) 3 x) : ∃ m : Int, x = .int .i64 m := by
  obtain ⟨m, rfl, _⟩ := hasB_int Try.underlying3 h
  exact ⟨m, rfl⟩
theorem arg_int64 {B n : Nat} {x : AV} (h : HasVB Try.prog B (n + 1) 2 x) : ∃ m : Int, x = .int .i64 m := by
  obtain ⟨m, rfl, _⟩ := hasB_int Try.underlying2 h
  exact ⟨m, rfl⟩

theorem call_has {B n : Nat} {bs : List AV} (h : HasTB Try.prog B (n + 4) 50 bs) : ∃ c : Call, bs = encC.c c := by
  rw [HasTB] at h
  simp only [Try.underlying50, hasFs] at h
  obtain ⟨_, _, rfl, h1, _, _, rfl, h2, _, _, rfl, h3, _, _, rfl, h4, _, _, rfl, h5, _, _, rfl, h6, rfl⟩ := h
  obtain ⟨a, rfl⟩ := act_has h2
  obtain ⟨ks, rfl, _⟩ := hasTB_slice encA Try.underlying27 (fun bs h => act_has h) h6
  simp only [HasTB, Try.underlying2, Try.underlying3, Try.underlying4] at h1 h3 h4 h5
  obtain ⟨k, rfl, _⟩ := h1
  obtain ⟨x, rfl, _⟩ := h3
  obtain ⟨m, rfl, _⟩ := h4
  obtain ⟨b, rfl⟩ := h5
  exact ⟨⟨k, a, x, m, b, ks⟩, rfl⟩
theorem arg_calls {B n : Nat} {x : AV} (h : HasVB Try.prog B (n + 5) 46 x) : ∃ l : List Call, x = encC.S l ∧ l.length ≤ B :=
  hasB_slice encC Try.underlying46 (fun bs h => call_has h) h
theorem arg_nums {B n : Nat} {x : AV} (h : HasVB Try.prog B (n + 2) 60 x) : ∃ l : List Int, x = encI.S l ∧ l.length ≤ B :=
  hasB_slice encI Try.underlying60 (fun bs h => by
    simp only [HasTB, Try.underlying2] at h
    obtain ⟨m, rfl, _⟩ := h
    exact ⟨m, rfl⟩) h

end Go.Gi
