/- Queues as plain data: what is done with them, when they are valid, and what the laws say of it. No condition. -/
/- What the laws say of queues, call by call, as plain data. No condition. -/
set_option linter.unusedVariables false
set_option linter.unusedSimpArgs false
namespace Go.Gi
section
structure Act where
  kind : Int
  room : List UInt8
  sub : List UInt8
  reason : List UInt8
  deny : List UInt8
  deriving DecidableEq
structure Job where
  txn : Int
  act : Act
  fly : Bool
  doubt : Bool
  tries : Int
  at_ : Int
  deriving DecidableEq
structure Que where
  jobs : List Job
  next : Int
  now : Int
  failed : List Act
  settled : List Act
  resync : Bool
  deriving DecidableEq

def Act.alike (a b : Act) : Bool := decide (a.room = b.room) && (decide (a.kind = b.kind) && decide (a.sub = b.sub))
def Act.known (a : Act) : Bool := decide (1 ≤ a.kind) && decide (a.kind ≤ 4)
def Act.light (a : Act) : Bool := decide (a.room.length ≤ 300) && (decide (a.sub.length ≤ 300) && (decide (a.reason.length ≤ 300) && decide (a.deny.length ≤ 3000)))
def Job.waits (j : Job) : Bool := !j.fly && !j.doubt
def Job.zero : Job := ⟨0, ⟨0, [], [], [], []⟩, false, false, 0, 0⟩
def backoff (n : Int) : Int := if n < 1 then 0 else min 64 (2 ^ (min n 20).toNat)
def flyers (l : List Job) : Nat := l.countP (·.fly)
def Que.empty : Que := ⟨[], 1, 0, [], [], false⟩
def Que.acts (q : Que) : List Act := q.jobs.map (·.act) ++ (q.failed ++ q.settled)
def place (l : List Job) (t : Int) : Option Nat := l.findIdx? fun j => decide (j.txn = t)
def Que.find (q : Que) (t : Int) : Job × Bool := match place q.jobs t with
  | some i => (q.jobs.getD i .zero, true)
  | none => (.zero, false)
def Que.put (q : Que) (a : Act) : Que × Int × Int :=
  if a.known = false then (q, 0, 2)
  else if q.acts.any (fun b => a.alike b) = true then (q, 0, 8)
  else if 32 ≤ q.jobs.length ∨ 1152921504606846976 ≤ q.next then ({ q with resync := true }, 0, 13)
  else ({ q with jobs := q.jobs ++ [⟨q.next, a, false, false, 0, q.now⟩], next := q.next + 1 }, q.next, 0)
def Que.nxt (q : Que) (barred : List Int) : Job × Bool :=
  if 4 ≤ flyers q.jobs then (.zero, false)
  else match q.jobs.find? (fun j => (j.doubt && !j.fly) && !decide (j.txn ∈ barred)) with
    | some j => (j, true)
    | none => match q.jobs.find? (fun j => (j.waits && decide (j.at_ ≤ q.now)) && !decide (j.txn ∈ barred)) with
      | some j => (j, true)
      | none => (.zero, false)
def Que.send (q : Que) (t : Int) : Que × Int := match place q.jobs t with
  | none => (q, 12)
  | some i => let j := q.jobs.getD i .zero
    if (j.fly || (j.waits && decide (q.now < j.at_)) || decide (4 ≤ flyers q.jobs)) = true then (q, 14)
    else ({ q with jobs := q.jobs.set i { j with fly := true } }, 0)
def Que.reply (q : Que) (t : Int) (ok : Bool) : Que × Int × Int := match place q.jobs t with
  | none => (q, 0, 12)
  | some i => let j := q.jobs.getD i .zero
    if j.waits = true then (q, 0, 14)
    else if ok = true then ({ q with jobs := q.jobs.eraseIdx i, settled := (q.settled ++ [j.act]).drop ((q.settled.length + 1) - 64) }, 1, 0)
    else if 5 ≤ j.tries + 1 ∧ q.failed.length < 64 then ({ q with jobs := q.jobs.eraseIdx i, failed := q.failed ++ [j.act] }, 3, 0)
    else ({ q with jobs := q.jobs.set i { j with fly := false, doubt := false, tries := min (j.tries + 1) 4, at_ := q.now + backoff (min (j.tries + 1) 4) } }, 2, 0)
def Que.pass (q : Que) (n : Int) : Que × Int :=
  if n < 0 ∨ 1000000 < n then (q, 2)
  else if 1152921504606846976 - n < q.now then (q, 13)
  else ({ q with now := q.now + n }, 0)
def goes (keep : List Act) (j : Job) : Bool := j.waits && !decide (j.act ∈ keep)
def Que.withdraw (q : Que) (keep : List Act) : Que × List Job :=
  ({ q with jobs := q.jobs.filter (fun j => !goes keep j), settled := q.settled.filter (fun a => decide (a ∈ keep)) }, q.jobs.filter (goes keep))
def landJ (j : Job) : Job := { j with fly := false, doubt := j.doubt || j.fly }
def Que.land (q : Que) : Que := { q with jobs := q.jobs.map landJ }
def Que.clear (q : Que) : Que := { q with failed := [], settled := [] }

/-- Each job is valid, and their numbers rise. -/
def okJobs (next : Int) : Int → List Job → Bool
  | _, [] => true
  | ahead, j :: l => (decide (ahead < j.txn) && (decide (j.txn < next) && (decide (0 ≤ j.tries) && (decide (j.tries < 5) && (decide (0 ≤ j.at_) && decide (j.at_ ≤ 1152921504606847040)))))) && okJobs next j.txn l
/-- All are known, and no two alike: each one against those ahead of it. -/
def okActs : List Act → List Act → Bool
  | _, [] => true
  | ahead, a :: l => (a.known && !ahead.any (fun b => a.alike b)) && okActs (ahead ++ [a]) l
def Que.sized (q : Que) : Bool := decide (q.jobs.length ≤ 32) && (decide (1 ≤ q.next) && (decide (q.next ≤ 1152921504606846976) && (decide (0 ≤ q.now) && (decide (q.now ≤ 1152921504606846976) && (decide (q.failed.length ≤ 64) && decide (q.settled.length ≤ 64))))))
def Que.valid (q : Que) : Bool := q.sized && (decide (flyers q.jobs ≤ 4) && (okJobs q.next 0 q.jobs && okActs [] q.acts))
def Que.check (q : Que) : Int := if q.valid = true then 0 else 2

/-! ### Facts -/
theorem place_some {l : List Job} {t : Int} {i : Nat} (h : place l t = some i) : i < l.length ∧ (l.getD i .zero).txn = t ∧ l[i]? = some (l.getD i .zero) := by
  unfold place at h
  rw [List.findIdx?_eq_some_iff_getElem] at h
  obtain ⟨h1, h2, _⟩ := h
  have : l.getD i .zero = l[i] := by simp [List.getD_eq_getElem?_getD, h1]
  refine ⟨h1, by rw [this]; simpa using h2, by rw [this]; exact List.getElem?_eq_getElem h1⟩
theorem alike_symm (a b : Act) : a.alike b = b.alike a := by
  simp only [Act.alike, eq_comm]
theorem okJobs_iff {next : Int} : ∀ {l : List Job} {ahead : Int}, okJobs next ahead l = true ↔ (∀ j ∈ l, ahead < j.txn ∧ j.txn < next ∧ 0 ≤ j.tries ∧ j.tries < 5 ∧ 0 ≤ j.at_ ∧ j.at_ ≤ 1152921504606847040) ∧ l.Pairwise (fun a b => a.txn < b.txn)
  | [], ahead => by simp [okJobs]
  | j :: l, ahead => by
    simp only [okJobs, Bool.and_eq_true, decide_eq_true_eq, okJobs_iff (l := l), List.mem_cons, forall_eq_or_imp, List.pairwise_cons]
    constructor
    · rintro ⟨⟨h1, h2, h3, h4, h5, h6⟩, h7, h8⟩
      exact ⟨⟨⟨h1, h2, h3, h4, h5, h6⟩, fun x hx => by
        obtain ⟨k1, k2⟩ := h7 x hx
        exact ⟨by omega, k2⟩⟩, fun x hx => (h7 x hx).1, h8⟩
    · rintro ⟨⟨h1, h7⟩, h9, h8⟩
      exact ⟨h1, fun x hx => ⟨h9 x hx, (h7 x hx).2⟩, h8⟩
theorem okActs_iff : ∀ {l ahead : List Act}, okActs ahead l = true ↔ (∀ a ∈ l, a.known = true) ∧ (∀ a ∈ l, ∀ b ∈ ahead, a.alike b = false) ∧ l.Pairwise (fun a b => a.alike b = false)
  | [], ahead => by simp [okActs]
  | a :: l, ahead => by
    simp only [okActs, Bool.and_eq_true, okActs_iff (l := l), List.mem_cons, forall_eq_or_imp, List.pairwise_cons, Bool.not_eq_true', List.any_eq_false, List.mem_append, List.mem_singleton, Bool.not_eq_true]
    constructor
    · rintro ⟨⟨h1, h2⟩, h3, h4, h5⟩
      exact ⟨⟨h1, h3⟩, ⟨h2, fun x hx b hb => h4 x hx b (.inl hb)⟩, fun x hx => by rw [alike_symm]; exact h4 x hx a (.inr (.inl rfl)), h5⟩
    · rintro ⟨⟨h1, h3⟩, ⟨h2, h4⟩, h6, h5⟩
      refine ⟨⟨h1, h2⟩, h3, fun x hx b hb => ?_, h5⟩
      rcases hb with hb | hb | hb
      · exact h4 x hx b hb
      · subst hb; rw [alike_symm]; exact h6 x hx
      · cases hb

structure Valid (q : Que) : Prop where
  nj : q.jobs.length ≤ 32
  n1 : 1 ≤ q.next
  n2 : q.next ≤ 1152921504606846976
  t1 : 0 ≤ q.now
  t2 : q.now ≤ 1152921504606846976
  nf : q.failed.length ≤ 64
  ns : q.settled.length ≤ 64
  fl : flyers q.jobs ≤ 4
  js : ∀ j ∈ q.jobs, 0 < j.txn ∧ j.txn < q.next ∧ 0 ≤ j.tries ∧ j.tries < 5 ∧ 0 ≤ j.at_ ∧ j.at_ ≤ 1152921504606847040
  up : q.jobs.Pairwise (fun a b => a.txn < b.txn)
  kn : ∀ a ∈ q.acts, a.known = true
  al : q.acts.Pairwise (fun a b => a.alike b = false)
theorem valid_iff {q : Que} : q.valid = true ↔ Valid q := by
  simp only [Que.valid, Que.sized, Bool.and_eq_true, decide_eq_true_eq, okJobs_iff, okActs_iff]
  constructor
  · rintro ⟨⟨h1, h2, h3, h4, h5, h6, h7⟩, h8, ⟨h9, h10⟩, h11, _, h12⟩
    exact ⟨h1, h2, h3, h4, h5, h6, h7, h8, h9, h10, h11, h12⟩
  · rintro ⟨h1, h2, h3, h4, h5, h6, h7, h8, h9, h10, h11, h12⟩
    exact ⟨⟨h1, h2, h3, h4, h5, h6, h7⟩, h8, ⟨h9, h10⟩, h11, by simp, h12⟩

theorem alike_perm {l m : List Act} (h : l.Perm m) : l.Pairwise (fun a b => a.alike b = false) → m.Pairwise (fun a b => a.alike b = false) := fun k =>
  (h.pairwise_iff (fun {a b} hab => by rw [alike_symm]; exact hab)).1 k
theorem flyers_filter (p : Job → Bool) (l : List Job) : flyers (l.filter p) ≤ flyers l := List.filter_sublist.countP_le
theorem flyers_erase (l : List Job) (i : Nat) : flyers (l.eraseIdx i) ≤ flyers l := (List.eraseIdx_sublist l i).countP_le
theorem flyers_set {l : List Job} {i : Nat} {j : Job} (h : i < l.length) : flyers (l.set i j) ≤ flyers l + if j.fly then 1 else 0 := by
  unfold flyers
  rw [List.countP_set h]
  split <;> split <;> simp_all <;> omega

theorem put_valid {q : Que} (v : Valid q) (a : Act) : Valid (q.put a).1 := by
  unfold Que.put
  split
  · exact v
  split
  · exact v
  split
  · exact ⟨v.nj, v.n1, v.n2, v.t1, v.t2, v.nf, v.ns, v.fl, v.js, v.up, v.kn, v.al⟩
  rename_i h1 h2 h3
  have h1' : a.known = true := by simpa using h1
  have hb := v.n1
  have hb2 := v.n2
  have ht := v.t1
  have ht2 := v.t2
  have h4 : ¬ 32 ≤ q.jobs.length := fun h => h3 (.inl h)
  have h5 : ¬ 1152921504606846976 ≤ q.next := fun h => h3 (.inr h)
  refine ⟨by simp; omega, by show 1 ≤ q.next + 1; omega, by show q.next + 1 ≤ _; omega, v.t1, v.t2, v.nf, v.ns, ?_, ?_, ?_, ?_, ?_⟩
  · simp only [flyers, List.countP_append, List.countP_singleton]
    have := v.fl
    simpa [flyers] using this
  · intro j hj
    rcases List.mem_append.1 hj with hj | hj
    · have := v.js j hj
      refine ⟨this.1, by show j.txn < q.next + 1; omega, this.2.2⟩
    · simp only [List.mem_singleton] at hj
      subst hj
      refine ⟨?_, ?_, ?_, ?_, ?_, ?_⟩ <;> simp only <;> omega
  · refine List.pairwise_append.2 ⟨v.up, by simp, fun x hx y hy => ?_⟩
    simp only [List.mem_singleton] at hy
    subst hy
    exact (v.js x hx).2.1
  · intro b hb
    simp only [Que.acts, List.map_append, List.map_cons, List.map_nil, List.mem_append, List.mem_singleton] at hb
    have hk := v.kn b
    simp only [Que.acts, List.mem_append] at hk
    rcases hb with (hb | hb) | hb
    · exact hk (.inl hb)
    · subst hb; exact h1'
    · exact hk (.inr hb)
  · have hp : List.Perm (a :: q.acts) (Que.acts { q with jobs := q.jobs ++ [⟨q.next, a, false, false, 0, q.now⟩], next := q.next + 1 }) := by
      simp only [Que.acts, List.map_append, List.map_cons, List.map_nil, List.append_assoc]
      exact List.perm_middle.symm
    refine alike_perm hp (List.pairwise_cons.2 ⟨fun b hb => ?_, v.al⟩)
    simp only [Bool.not_eq_true, List.any_eq_false] at h2
    simpa using h2 b hb

theorem acts_set {l : List Job} {i : Nat} {j : Job} (h : l[i]? = some j) {k : Job} (hk : k.act = j.act) : (l.set i k).map (·.act) = l.map (·.act) := by
  apply List.ext_getElem?
  intro n
  simp only [List.getElem?_map, List.getElem?_set]
  split
  · rename_i e
    subst e
    rw [h]
    split <;> simp_all
  · rfl
theorem txn_set {l : List Job} {i : Nat} {j : Job} (h : l[i]? = some j) {k : Job} (hk : k.txn = j.txn) : (l.set i k).map (·.txn) = l.map (·.txn) := by
  apply List.ext_getElem?
  intro n
  simp only [List.getElem?_map, List.getElem?_set]
  split
  · rename_i e
    subst e
    rw [h]
    split <;> simp_all
  · rfl
theorem up_iff {l : List Job} : l.Pairwise (fun a b => a.txn < b.txn) ↔ (l.map (·.txn)).Pairwise (· < ·) := List.pairwise_map.symm
theorem set_valid {q : Que} (v : Valid q) {i : Nat} {j k : Job} (h : q.jobs[i]? = some j) (h1 : k.act = j.act) (h2 : k.txn = j.txn) (h3 : 0 ≤ k.tries) (h4 : k.tries < 5) (h5 : 0 ≤ k.at_) (h6 : k.at_ ≤ 1152921504606847040) (h7 : flyers (q.jobs.set i k) ≤ 4) : Valid { q with jobs := q.jobs.set i k } := by
  refine ⟨by simpa using v.nj, v.n1, v.n2, v.t1, v.t2, v.nf, v.ns, h7, ?_, ?_, ?_, ?_⟩
  · intro x hx
    rcases List.mem_or_eq_of_mem_set hx with hx | rfl
    · exact v.js x hx
    · have := v.js j (List.mem_of_getElem? h)
      rw [← h2] at this
      exact ⟨this.1, this.2.1, h3, h4, h5, h6⟩
  · show List.Pairwise _ (q.jobs.set i k)
    rw [up_iff, txn_set h h2, ← up_iff]
    exact v.up
  · have := v.kn
    simp only [Que.acts] at this ⊢
    rw [acts_set h h1]
    exact this
  · have := v.al
    simp only [Que.acts] at this ⊢
    rw [acts_set h h1]
    exact this
theorem send_valid {q : Que} (v : Valid q) (t : Int) : Valid (q.send t).1 := by
  unfold Que.send
  split
  · exact v
  rename_i i hi
  obtain ⟨h1, h2, h3⟩ := place_some hi
  simp only
  split
  · exact v
  rename_i hs
  have hj := v.js _ (List.mem_of_getElem? h3)
  refine set_valid v h3 rfl rfl hj.2.2.1 hj.2.2.2.1 hj.2.2.2.2.1 hj.2.2.2.2.2 ?_
  have := flyers_set (j := { q.jobs.getD i .zero with fly := true }) h1
  simp only [Bool.not_eq_true, Bool.or_eq_false_iff, decide_eq_false_iff_not] at hs
  simp only [if_true] at this
  omega
theorem backoff_le (n : Int) : 0 ≤ backoff n ∧ backoff n ≤ 64 := by
  unfold backoff
  split
  · omega
  · have : (0 : Int) < 2 ^ (min n 20).toNat := Int.pow_pos (by omega)
    omega
theorem acts_erase {q : Que} {i : Nat} {j : Job} (h : q.jobs[i]? = some j) (f s : List Act) : List.Perm ((q.jobs.eraseIdx i).map (·.act) ++ (f ++ (s ++ [j.act]))) (q.jobs.map (·.act) ++ (f ++ s)) := by
  obtain ⟨h1, h2⟩ := List.getElem?_eq_some_iff.1 h
  have e : q.jobs = q.jobs.take i ++ j :: q.jobs.drop (i + 1) := by
    rw [← h2, ← List.drop_eq_getElem_cons h1, List.take_append_drop]
  have e2 : q.jobs.eraseIdx i = q.jobs.take i ++ q.jobs.drop (i + 1) := List.eraseIdx_eq_take_drop_succ ..
  rw [e2]
  conv => rhs; rw [e]
  simp only [List.map_append, List.map_cons, List.append_assoc, List.cons_append]
  have h3 : List.Perm ((q.jobs.drop (i + 1)).map (·.act) ++ (f ++ (s ++ [j.act]))) (j.act :: ((q.jobs.drop (i + 1)).map (·.act) ++ (f ++ s))) := by
    rw [← List.append_assoc, ← List.append_assoc, ← List.append_assoc]
    exact List.perm_append_singleton _ _
  exact List.Perm.append_left _ h3
theorem sub_valid {q : Que} (v : Valid q) {js : List Job} {f s : List Act} (hs : js.Sublist q.jobs) (hf : f.length ≤ 64) (hset : s.length ≤ 64) (ha : ∃ l : List Act, (js.map (·.act) ++ (f ++ s)).Sublist l ∧ l.Perm q.acts) : Valid { q with jobs := js, failed := f, settled := s } := by
  obtain ⟨l, h1, h2⟩ := ha
  refine ⟨Nat.le_trans hs.length_le v.nj, v.n1, v.n2, v.t1, v.t2, hf, hset, Nat.le_trans hs.countP_le v.fl, fun j hj => v.js j (hs.subset hj), v.up.sublist hs, fun a ha => v.kn a (h2.subset (h1.subset ha)), ?_⟩
  exact (alike_perm h2.symm v.al).sublist h1
theorem reply_valid {q : Que} (v : Valid q) (t : Int) (ok : Bool) : Valid (q.reply t ok).1 := by
  unfold Que.reply
  split
  · exact v
  rename_i i hi
  obtain ⟨h1, h2, h3⟩ := place_some hi
  simp only
  split
  · exact v
  split
  · refine sub_valid v (List.eraseIdx_sublist _ _) v.nf (by have := v.ns; simp; omega) ⟨_, ?_, acts_erase h3 q.failed q.settled⟩
    exact List.Sublist.append (List.Sublist.refl _) (List.Sublist.append (List.Sublist.refl _) (List.drop_sublist _ _))
  split
  · rename_i h6
    refine sub_valid v (List.eraseIdx_sublist _ _) (by simp; omega) v.ns ⟨_, List.Sublist.refl _, ?_⟩
    refine List.Perm.trans ?_ (acts_erase h3 q.failed q.settled)
    refine List.Perm.append_left _ ?_
    rw [List.append_assoc]
    exact List.Perm.append_left _ List.perm_append_comm
  · have hj := v.js _ (List.mem_of_getElem? h3)
    have hb := backoff_le (min ((q.jobs.getD i .zero).tries + 1) 4)
    have := v.t1
    have := v.t2
    refine set_valid v h3 rfl rfl (by simp only; omega) (by simp only; omega) (by simp only; omega) (by simp only; omega) ?_
    refine Nat.le_trans (flyers_set h1) ?_
    simpa using v.fl
theorem pass_valid {q : Que} (v : Valid q) (n : Int) : Valid (q.pass n).1 := by
  unfold Que.pass
  split
  · exact v
  split
  · exact v
  have := v.t1
  exact ⟨v.nj, v.n1, v.n2, by show 0 ≤ q.now + n; omega, by show q.now + n ≤ _; omega, v.nf, v.ns, v.fl, v.js, v.up, v.kn, v.al⟩
theorem withdraw_valid {q : Que} (v : Valid q) (keep : List Act) : Valid (q.withdraw keep).1 := by
  unfold Que.withdraw
  refine sub_valid v List.filter_sublist v.nf (Nat.le_trans (List.length_filter_le _ _) v.ns) ⟨_, ?_, List.Perm.refl _⟩
  exact List.Sublist.append (List.filter_sublist.map _) (List.Sublist.append (List.Sublist.refl _) List.filter_sublist)
theorem land_valid {q : Que} (v : Valid q) : Valid q.land := by
  unfold Que.land
  have e1 : (q.jobs.map landJ).map (·.act) = q.jobs.map (·.act) := by rw [List.map_map]; rfl
  have e2 : (q.jobs.map landJ).map (·.txn) = q.jobs.map (·.txn) := by rw [List.map_map]; rfl
  refine ⟨by simpa using v.nj, v.n1, v.n2, v.t1, v.t2, v.nf, v.ns, ?_, ?_, ?_, ?_, ?_⟩
  · show flyers (q.jobs.map landJ) ≤ 4
    have : flyers (q.jobs.map landJ) = 0 := by
      unfold flyers
      rw [List.countP_eq_zero]
      intro j hj
      obtain ⟨k, _, rfl⟩ := List.mem_map.1 hj
      simp [landJ]
    omega
  · intro j hj
    obtain ⟨k, hk, rfl⟩ := List.mem_map.1 hj
    exact v.js k hk
  · show List.Pairwise _ (q.jobs.map landJ)
    rw [up_iff, e2, ← up_iff]
    exact v.up
  · have := v.kn
    simp only [Que.acts] at this ⊢
    rw [e1]
    exact this
  · have := v.al
    simp only [Que.acts] at this ⊢
    rw [e1]
    exact this
theorem clear_valid {q : Que} (v : Valid q) : Valid q.clear := by
  unfold Que.clear
  refine sub_valid v (List.Sublist.refl _) (by simp) (by simp) ⟨_, ?_, List.Perm.refl _⟩
  exact List.Sublist.append (List.Sublist.refl _) (List.nil_sublist _)
theorem empty_valid : Valid Que.empty := valid_iff.1 rfl
end
section
/-- outlawkit.Pick. -/
def pick (n m : Int) : Int := if m < 1 then 0 else if n.tmod m < 0 then n.tmod m + m else n.tmod m
theorem pick_range (n m : Int) (hm : 0 < m) : 0 ≤ pick n m ∧ pick n m < m := by
  have h2 := Int.tmod_lt_of_pos n hm
  have h3 := Int.lt_tmod_of_pos n hm
  unfold pick
  rw [if_neg (by omega)]
  split <;> omega

/-- A call of the law's. -/
structure Call where
  kind : Int
  a : Act
  txn : Int
  n : Int
  ok : Bool
  keep : List Act
/-- What a call does: the queue then, the error, what came of a reply, the number of what was put, what went. -/
def doQ (q : Que) (c : Call) : Que × Int × Int × Int × List Job :=
  if pick c.kind 9 = 0 ∨ pick c.kind 9 = 1 then ((q.put c.a).1, (q.put c.a).2.2, 0, (q.put c.a).2.1, [])
  else if pick c.kind 9 = 2 then ((q.send (q.nxt []).1.txn).1, (q.send (q.nxt []).1.txn).2, 0, (q.nxt []).1.txn, [])
  else if pick c.kind 9 = 3 then ((q.send c.txn).1, (q.send c.txn).2, 0, 0, [])
  else if pick c.kind 9 = 4 then ((q.reply c.txn c.ok).1, (q.reply c.txn c.ok).2.2, (q.reply c.txn c.ok).2.1, 0, [])
  else if pick c.kind 9 = 5 then ((q.pass c.n).1, (q.pass c.n).2, 0, 0, [])
  else if pick c.kind 9 = 6 then ((q.withdraw c.keep).1, 0, 0, 0, (q.withdraw c.keep).2)
  else if pick c.kind 9 = 7 then (q.land, 0, 0, 0, [])
  else (q.clear, 0, 0, 0, [])

theorem do_valid {q : Que} (v : Valid q) (c : Call) : Valid (doQ q c).1 := by
  unfold doQ
  repeat' split
  · exact put_valid v _
  · exact send_valid v _
  · exact send_valid v _
  · exact reply_valid v _ _
  · exact pass_valid v _
  · exact withdraw_valid v _
  · exact land_valid v
  · exact clear_valid v

theorem put_may (q : Que) (a : Act) : (q.put a).1.now = q.now ∧ ((q.put a).2.2 ≠ 0 → (q.put a).1 = { q with resync := q.resync || decide ((q.put a).2.2 = 13) }) ∧ ((q.put a).2.2 = 0 → (q.put a).2.1 = q.next ∧ (q.put a).1.next = q.next + 1) ∧ q.next ≤ (q.put a).1.next := by
  unfold Que.put
  repeat' split
  all_goals simp
  all_goals omega
theorem send_may (q : Que) (t : Int) : (q.send t).1.now = q.now ∧ ((q.send t).2 ≠ 0 → (q.send t).1 = q) ∧ (q.send t).1.next = q.next := by
  unfold Que.send
  repeat' split
  all_goals simp
  all_goals (try split)
  all_goals simp
theorem reply_may (q : Que) (t : Int) (ok : Bool) : (q.reply t ok).1.now = q.now ∧ ((q.reply t ok).2.2 ≠ 0 → (q.reply t ok).1 = q) ∧ (q.reply t ok).1.next = q.next := by
  unfold Que.reply
  split
  · simp
  simp only
  repeat' split
  all_goals simp
theorem pass_may (q : Que) (n : Int) : q.now ≤ (q.pass n).1.now ∧ ((q.pass n).2 ≠ 0 → (q.pass n).1 = q) ∧ (q.pass n).1.next = q.next := by
  unfold Que.pass
  repeat' split
  all_goals simp
  all_goals omega

/-- QueueMay, for one call. -/
theorem do_may {q : Que} (c : Call) : q.now ≤ (doQ q c).1.now ∧ q.next ≤ (doQ q c).1.next ∧
    ((doQ q c).2.1 ≠ 0 → (doQ q c).1 = { q with resync := q.resync || (decide (pick c.kind 9 < 2) && decide ((doQ q c).2.1 = 13)) }) ∧
    ((doQ q c).2.1 = 0 → (pick c.kind 9 < 2 → (doQ q c).2.2.2.1 = q.next ∧ (doQ q c).1.next = q.next + 1) ∧ (¬ pick c.kind 9 < 2 → (doQ q c).1.next = q.next)) := by
  have hr := pick_range c.kind 9 (by omega)
  have same : ∀ {p : Que}, ¬ pick c.kind 9 < 2 → ∀ {e : Int}, p = { p with resync := p.resync || (decide (pick c.kind 9 < 2) && decide (e = 13)) } := fun h _ => by simp [h]
  unfold doQ
  split
  · rename_i h
    have h2 : pick c.kind 9 < 2 := by omega
    obtain ⟨k1, k2, k3, k4⟩ := put_may q c.a
    refine ⟨by simp only; omega, k4, fun he => by simp only [h2, decide_true, Bool.true_and]; exact k2 he, fun he => ⟨fun _ => k3 he, fun h => absurd h2 h⟩⟩
  have h2 : ¬ pick c.kind 9 < 2 := by omega
  have sendC : ∀ t n, q.now ≤ (q.send t).1.now ∧ q.next ≤ (q.send t).1.next ∧
    ((q.send t).2 ≠ 0 → (q.send t).1 = { q with resync := q.resync || (decide (pick c.kind 9 < 2) && decide ((q.send t).2 = 13)) }) ∧
    ((q.send t).2 = 0 → (pick c.kind 9 < 2 → n = q.next ∧ (q.send t).1.next = q.next + 1) ∧ (¬ pick c.kind 9 < 2 → (q.send t).1.next = q.next)) := fun t n => by
    obtain ⟨k1, k2, k3⟩ := send_may q t
    exact ⟨by omega, by omega, fun he => (k2 he).trans (same h2), fun _ => ⟨fun h => absurd h h2, fun _ => k3⟩⟩
  split
  · exact sendC _ _
  split
  · exact sendC _ _
  split
  · obtain ⟨k1, k2, k3⟩ := reply_may q c.txn c.ok
    exact ⟨by simp only; omega, by simp only; omega, fun he => (k2 he).trans (same h2), fun _ => ⟨fun h => absurd h h2, fun _ => k3⟩⟩
  split
  · obtain ⟨k1, k2, k3⟩ := pass_may q c.n
    exact ⟨by simp only; omega, by simp only; omega, fun he => (k2 he).trans (same h2), fun _ => ⟨fun h => absurd h h2, fun _ => k3⟩⟩
  split
  · exact ⟨Int.le_refl _, Int.le_refl _, fun he => absurd rfl he, fun _ => ⟨fun h => absurd h h2, fun _ => rfl⟩⟩
  split
  · exact ⟨Int.le_refl _, Int.le_refl _, fun he => absurd rfl he, fun _ => ⟨fun h => absurd h h2, fun _ => rfl⟩⟩
  · exact ⟨Int.le_refl _, Int.le_refl _, fun he => absurd rfl he, fun _ => ⟨fun h => absurd h h2, fun _ => rfl⟩⟩

/-! ### QueueOnce -/
/-- The jobs' numbers, with their actions. -/
def ents (l : List Job) : List (Int × Act) := l.map fun j => (j.txn, j.act)
/-- What is left of them without a number. -/
def cut (es : List (Int × Act)) (t : Int) : List (Int × Act) := es.filter fun e => !decide (e.1 = t)
def cuts (es : List (Int × Act)) (ts : List Int) : List (Int × Act) := ts.foldl cut es
theorem cuts_eq (es : List (Int × Act)) : ∀ ts : List Int, cuts es ts = es.filter fun e => !decide (e.1 ∈ ts)
  | [] => by
    simp only [cuts, List.foldl_nil, List.not_mem_nil, decide_false, Bool.not_false]
    exact (List.filter_eq_self.2 fun _ _ => rfl).symm
  | t :: ts => by
    show cuts (cut es t) ts = _
    rw [cuts_eq (cut es t) ts, cut, List.filter_filter]
    congr 1
    funext e
    simp only [List.mem_cons]
    by_cases h1 : e.1 = t <;> by_cases h2 : e.1 ∈ ts <;> simp [h1, h2]
theorem cut_mem {es : List (Int × Act)} {t : Int} {e : Int × Act} (h : e ∈ es) (hn : e.1 ≠ t) : e ∈ cut es t := List.mem_filter.2 ⟨h, by simp [hn]⟩

theorem txn_uniq : ∀ {l : List Job}, l.Pairwise (fun a b => a.txn < b.txn) → ∀ {x y : Job}, x ∈ l → y ∈ l → x.txn = y.txn → x = y
  | [], _, x, y, hx, _, _ => by cases hx
  | j :: l, up, x, y, hx, hy, h => by
    rw [List.pairwise_cons] at up
    rcases List.mem_cons.1 hx with h1 | h1 <;> rcases List.mem_cons.1 hy with h2 | h2
    · rw [h1, h2]
    · have := up.1 _ h2; rw [h1] at h; omega
    · have := up.1 _ h1; rw [h2] at h; omega
    · exact txn_uniq up.2 h1 h2 h
theorem ents_filter {l : List Job} (up : l.Pairwise (fun a b => a.txn < b.txn)) (p : Job → Bool) : cuts (ents l) ((l.filter p).map (·.txn)) = ents (l.filter fun j => !p j) := by
  rw [cuts_eq]
  unfold ents
  rw [List.filter_map]
  congr 1
  apply List.filter_congr
  intro j hj
  simp only [Function.comp]
  congr 1
  rw [Bool.eq_iff_iff, decide_eq_true_eq, List.mem_map]
  constructor
  · rintro ⟨k, hk, h⟩
    obtain ⟨h1, h2⟩ := List.mem_filter.1 hk
    rw [← txn_uniq up h1 hj h]
    exact h2
  · exact fun h => ⟨j, List.mem_filter.2 ⟨hj, h⟩, rfl⟩
theorem ents_erase {l : List Job} (up : l.Pairwise (fun a b => a.txn < b.txn)) {i : Nat} {t : Int} (h : place l t = some i) : cut (ents l) t = ents (l.eraseIdx i) := by
  obtain ⟨h1, h2, h3⟩ := place_some h
  have e := ents_filter up (fun j => decide (j.txn = t))
  have hl : l = l.take i ++ l.getD i .zero :: l.drop (i + 1) := by
    have hg : l.getD i .zero = l[i] := by simp [List.getD_eq_getElem?_getD, h1]
    rw [hg, ← List.drop_eq_getElem_cons h1, List.take_append_drop]
  have hne : ∀ j ∈ l.take i ++ l.drop (i + 1), ¬ j.txn = t := by
    rw [hl] at up
    obtain ⟨_, u1, u2⟩ := List.pairwise_append.1 up
    intro j hj hjt
    rcases List.mem_append.1 hj with hj | hj
    · have := u2 j hj _ List.mem_cons_self
      omega
    · have := (List.pairwise_cons.1 u1).1 j hj
      omega
  have e2 : (l.filter fun j => !decide (j.txn = t)) = l.eraseIdx i := by
    rw [List.eraseIdx_eq_take_drop_succ]
    conv => lhs; rw [hl]
    rw [List.filter_append, List.filter_cons_of_neg (by simp; exact h2), ← List.filter_append]
    exact List.filter_eq_self.2 fun j hj => by simp [hne j hj]
  rw [← e2]
  unfold ents cut
  rw [List.filter_map]
  rfl
theorem ents_map {l : List Job} {f : Job → Job} (h1 : ∀ j, (f j).txn = j.txn) (h2 : ∀ j, (f j).act = j.act) : ents (l.map f) = ents l := by
  unfold ents
  rw [List.map_map]
  congr 1
  funext j
  simp [h1, h2]
theorem ents_set {l : List Job} {i : Nat} {j : Job} (h : l[i]? = some j) {k : Job} (h1 : k.txn = j.txn) (h2 : k.act = j.act) : ents (l.set i k) = ents l := by
  unfold ents
  apply List.ext_getElem?
  intro n
  simp only [List.getElem?_map, List.getElem?_set]
  split
  · rename_i e
    subst e
    rw [h]
    split <;> simp_all
  · rfl
/-- The law's list behind a call. -/
def after (es : List (Int × Act)) (c : Call) (e what n : Int) (gone : List Job) : List (Int × Act) :=
  let es1 := if pick c.kind 9 < 2 ∧ e = 0 then es ++ [(n, c.a)] else es
  let es2 := cuts es1 (gone.map (·.txn))
  if pick c.kind 9 = 4 ∧ e = 0 ∧ what ≠ 2 then cut es2 c.txn else es2
theorem send_ents (q : Que) (t : Int) : ents (q.send t).1.jobs = ents q.jobs := by
  unfold Que.send
  split
  · rfl
  rename_i i hi
  obtain ⟨h1, h2, h3⟩ := place_some hi
  simp only
  split
  · rfl
  · exact ents_set h3 rfl rfl
theorem put_ents (q : Que) (a : Act) : ents (q.put a).1.jobs = if (q.put a).2.2 = 0 then ents q.jobs ++ [((q.put a).2.1, a)] else ents q.jobs := by
  unfold Que.put
  repeat' split
  all_goals simp_all [ents]
theorem reply_ents {q : Que} (v : Valid q) (t : Int) (ok : Bool) : ents (q.reply t ok).1.jobs = if (q.reply t ok).2.2 = 0 ∧ (q.reply t ok).2.1 ≠ 2 then cut (ents q.jobs) t else ents q.jobs := by
  unfold Que.reply
  split
  · rfl
  rename_i i hi
  obtain ⟨h1, h2, h3⟩ := place_some hi
  simp only
  repeat' split
  all_goals simp_all
  · exact (ents_erase v.up hi).symm
  · exact (ents_erase v.up hi).symm
  · exact ents_set (List.getElem?_eq_getElem h1) h2.symm rfl

/-- QueueOnce, for one call. -/
theorem do_once {q : Que} (v : Valid q) (c : Call) : ents (doQ q c).1.jobs = after (ents q.jobs) c (doQ q c).2.1 (doQ q c).2.2.1 (doQ q c).2.2.2.1 (doQ q c).2.2.2.2 ∧
    (pick c.kind 9 < 2 → (doQ q c).2.1 = 0 → (∀ e ∈ ents q.jobs, e.1 ≠ (doQ q c).2.2.2.1) ∧ ∀ b ∈ q.failed ++ q.settled, b.alike c.a = false) ∧
    (∀ j ∈ (doQ q c).2.2.2.2, j.fly = false ∧ j.doubt = false ∧ j ∈ q.jobs ∧ ¬ pick c.kind 9 < 2) ∧
    (doQ q c).2.2.2.2.Pairwise (fun a b => a.txn < b.txn) := by
  have hr := pick_range c.kind 9 (by omega)
  unfold doQ after
  split
  · rename_i h
    have h2 : pick c.kind 9 < 2 := by omega
    have h4 : ¬ pick c.kind 9 = 4 := by omega
    refine ⟨?_, fun _ he => ⟨fun e hm => ?_, fun b hb => ?_⟩, by simp, by simp⟩
    · rw [put_ents]
      simp only [h2, h4, true_and, false_and, if_false]
      rfl
    · simp only at he
      obtain ⟨j, hj, rfl⟩ := List.mem_map.1 hm
      have := (v.js j hj).2.1
      have := ((put_may q c.a).2.2.1 he).1
      simp only
      omega
    · simp only at he
      unfold Que.put at he
      split at he
      · cases he
      split at he
      · cases he
      rename_i h3
      simp only [Bool.not_eq_true, List.any_eq_false] at h3
      rw [alike_symm]
      have := h3 b (List.mem_append_right _ hb)
      simpa using this
  have h2 : ¬ pick c.kind 9 < 2 := by omega
  split
  · rename_i h
    have h4 : ¬ pick c.kind 9 = 4 := by omega
    exact ⟨by simp only [h2, h4, false_and, if_false]; exact send_ents _ _, fun h => absurd h h2, by simp, by simp⟩
  split
  · rename_i h
    have h4 : ¬ pick c.kind 9 = 4 := by omega
    exact ⟨by simp only [h2, h4, false_and, if_false]; exact send_ents _ _, fun h => absurd h h2, by simp, by simp⟩
  split
  · rename_i h
    refine ⟨?_, fun h => absurd h h2, by simp, by simp⟩
    rw [reply_ents v]
    simp only [h2, h, true_and, false_and, if_false]
    rfl
  split
  · rename_i h
    have h4 : ¬ pick c.kind 9 = 4 := by omega
    refine ⟨?_, fun h => absurd h h2, by simp, by simp⟩
    simp only [h2, h4, false_and, if_false]
    unfold Que.pass
    repeat' split
    all_goals rfl
  split
  · rename_i h
    have h4 : ¬ pick c.kind 9 = 4 := by omega
    refine ⟨?_, fun h => absurd h h2, fun j hj => ?_, v.up.sublist List.filter_sublist⟩
    · simp only [h2, h4, false_and, if_false]
      exact (ents_filter v.up (goes c.keep)).symm
    · obtain ⟨k1, k2⟩ := List.mem_filter.1 hj
      simp only [goes, Job.waits, Bool.and_eq_true, Bool.not_eq_true'] at k2
      exact ⟨k2.1.1, k2.1.2, k1, h2⟩
  split
  · rename_i h
    have h4 : ¬ pick c.kind 9 = 4 := by omega
    refine ⟨?_, fun h => absurd h h2, by simp, by simp⟩
    simp only [h2, h4, false_and, if_false]
    exact ents_map (fun _ => rfl) (fun _ => rfl)
  · rename_i h
    have h4 : ¬ pick c.kind 9 = 4 := by omega
    exact ⟨by simp only [h2, h4, false_and, if_false]; rfl, fun h => absurd h h2, by simp, by simp⟩

/-- What is under a number. -/
def under (es : List (Int × Act)) (t : Int) : Option Act := (es.find? fun e => decide (e.1 = t)).map (·.2)
theorem under_mem {es : List (Int × Act)} (hu : ∀ x ∈ es, ∀ y ∈ es, x.1 = y.1 → x = y) {t : Int} {a : Act} (h : (t, a) ∈ es) : under es t = some a := by
  unfold under
  cases hf : es.find? (fun e => decide (e.1 = t)) with
  | none =>
    have := List.find?_eq_none.1 hf _ h
    simp at this
  | some x =>
    have h1 := List.mem_of_find?_eq_some hf
    have h2 : x.1 = t := by simpa using List.find?_some hf
    rw [hu x h1 _ h h2]
    rfl
theorem under_none {es : List (Int × Act)} {t : Int} (h : ∀ e ∈ es, e.1 ≠ t) : under es t = none := by
  unfold under
  rw [List.find?_eq_none.2 fun x hx => by simp [h x hx]]
  rfl
theorem ents_uniq {l : List Job} (up : l.Pairwise (fun a b => a.txn < b.txn)) : ∀ x ∈ ents l, ∀ y ∈ ents l, x.1 = y.1 → x = y := by
  intro x hx y hy h
  obtain ⟨j, hj, rfl⟩ := List.mem_map.1 hx
  obtain ⟨k, hk, rfl⟩ := List.mem_map.1 hy
  rw [txn_uniq up hj hk h]
/-- What goes is there until it is cut. -/
theorem under_gone {q : Que} (v : Valid q) {gone : List Job} (hg : ∀ j ∈ gone, j ∈ q.jobs) (up : gone.Pairwise (fun a b => a.txn < b.txn)) {k : Nat} {j : Job} (hj : gone[k]? = some j) : under (cuts (ents q.jobs) ((gone.take k).map (·.txn))) j.txn = some j.act := by
  have hm := List.mem_of_getElem? hj
  rw [cuts_eq]
  refine under_mem (fun x hx y hy => ents_uniq v.up x (List.mem_filter.1 hx).1 y (List.mem_filter.1 hy).1) (List.mem_filter.2 ⟨List.mem_map.2 ⟨j, hg j hm, rfl⟩, ?_⟩)
  simp only [Bool.not_eq_true', decide_eq_false_iff_not, List.mem_map, not_exists, not_and]
  intro x hx hxt
  obtain ⟨h1, h2⟩ := List.getElem?_eq_some_iff.1 hj
  have e : gone = gone.take k ++ gone.drop k := (List.take_append_drop k gone).symm
  rw [e] at up
  have hjd : j ∈ gone.drop k := by
    rw [List.drop_eq_getElem_cons h1, h2]
    exact List.mem_cons_self
  have := (List.pairwise_append.1 up).2.2 x hx j hjd
  omega
end
end Go.Gi
