/- What the laws say of queues, call by call, as plain data. No condition. -/
import Derived.Test.YtakdhioafodhcaaGiQuL
set_option linter.unusedVariables false
set_option linter.unusedSimpArgs false
namespace Go.Gi

/-- outlawkit.Pick. -/
def pick (n m : Int) : Int := if m < 1 then 0 else if n.tmod m < 0 then n.tmod m + m else n.tmod m
theorem pick_range (n m : Int) (hm : 0 < m) : 0 ≤ pick n m ∧ pick n m < m := by
  have h2 := Int.tmod_lt_of_pos n hm
  have h3 := Int.lt_tmod_of_pos n hm
  unfold pick
  rw [if_neg (by omega)]
  split <;> omega

/-- A call of the law's. -/
structure Call where
  kind : Int
  a : Act
  txn : Int
  n : Int
  ok : Bool
  keep : List Act
/-- What a call does: the queue then, the error, what came of a reply, the number of what was put, what went. -/
def doQ (q : Que) (c : Call) : Que × Int × Int × Int × List Job :=
  if pick c.kind 9 = 0 ∨ pick c.kind 9 = 1 then ((q.put c.a).1, (q.put c.a).2.2, 0, (q.put c.a).2.1, [])
  else if pick c.kind 9 = 2 then ((q.send (q.nxt []).1.txn).1, (q.send (q.nxt []).1.txn).2, 0, (q.nxt []).1.txn, [])
  else if pick c.kind 9 = 3 then ((q.send c.txn).1, (q.send c.txn).2, 0, 0, [])
  else if pick c.kind 9 = 4 then ((q.reply c.txn c.ok).1, (q.reply c.txn c.ok).2.2, (q.reply c.txn c.ok).2.1, 0, [])
  else if pick c.kind 9 = 5 then ((q.pass c.n).1, (q.pass c.n).2, 0, 0, [])
  else if pick c.kind 9 = 6 then ((q.withdraw c.keep).1, 0, 0, 0, (q.withdraw c.keep).2)
  else if pick c.kind 9 = 7 then (q.land, 0, 0, 0, [])
  else (q.clear, 0, 0, 0, [])

theorem do_valid {q : Que} (v : Valid q) (c : Call) : Valid (doQ q c).1 := by
  unfold doQ
  repeat' split
  · exact put_valid v _
  · exact send_valid v _
  · exact send_valid v _
  · exact reply_valid v _ _
  · exact pass_valid v _
  · exact withdraw_valid v _
  · exact land_valid v
  · exact clear_valid v

theorem put_may (q : Que) (a : Act) : (q.put a).1.now = q.now ∧ ((q.put a).2.2 ≠ 0 → (q.put a).1 = { q with resync := q.resync || decide ((q.put a).2.2 = 13) }) ∧ ((q.put a).2.2 = 0 → (q.put a).2.1 = q.next ∧ (q.put a).1.next = q.next + 1) ∧ q.next ≤ (q.put a).1.next := by
  unfold Que.put
  repeat' split
  all_goals simp
  all_goals omega
theorem send_may (q : Que) (t : Int) : (q.send t).1.now = q.now ∧ ((q.send t).2 ≠ 0 → (q.send t).1 = q) ∧ (q.send t).1.next = q.next := by
  unfold Que.send
  repeat' split
  all_goals simp
  all_goals (try split)
  all_goals simp
theorem reply_may (q : Que) (t : Int) (ok : Bool) : (q.reply t ok).1.now = q.now ∧ ((q.reply t ok).2.2 ≠ 0 → (q.reply t ok).1 = q) ∧ (q.reply t ok).1.next = q.next := by
  unfold Que.reply
  split
  · simp
  simp only
  repeat' split
  all_goals simp
theorem pass_may (q : Que) (n : Int) : q.now ≤ (q.pass n).1.now ∧ ((q.pass n).2 ≠ 0 → (q.pass n).1 = q) ∧ (q.pass n).1.next = q.next := by
  unfold Que.pass
  repeat' split
  all_goals simp
  all_goals omega

/-- QueueMay, for one call. -/
theorem do_may {q : Que} (c : Call) : q.now ≤ (doQ q c).1.now ∧ q.next ≤ (doQ q c).1.next ∧
    ((doQ q c).2.1 ≠ 0 → (doQ q c).1 = { q with resync := q.resync || (decide (pick c.kind 9 < 2) && decide ((doQ q c).2.1 = 13)) }) ∧
    ((doQ q c).2.1 = 0 → (pick c.kind 9 < 2 → (doQ q c).2.2.2.1 = q.next ∧ (doQ q c).1.next = q.next + 1) ∧ (¬ pick c.kind 9 < 2 → (doQ q c).1.next = q.next)) := by
  have hr := pick_range c.kind 9 (by omega)
  have same : ∀ {p : Que}, ¬ pick c.kind 9 < 2 → ∀ {e : Int}, p = { p with resync := p.resync || (decide (pick c.kind 9 < 2) && decide (e = 13)) } := fun h _ => by simp [h]
  unfold doQ
  split
  · rename_i h
    have h2 : pick c.kind 9 < 2 := by omega
    obtain ⟨k1, k2, k3, k4⟩ := put_may q c.a
    refine ⟨by simp only; omega, k4, fun he => by simp only [h2, decide_true, Bool.true_and]; exact k2 he, fun he => ⟨fun _ => k3 he, fun h => absurd h2 h⟩⟩
  have h2 : ¬ pick c.kind 9 < 2 := by omega
  have sendC : ∀ t n, q.now ≤ (q.send t).1.now ∧ q.next ≤ (q.send t).1.next ∧
    ((q.send t).2 ≠ 0 → (q.send t).1 = { q with resync := q.resync || (decide (pick c.kind 9 < 2) && decide ((q.send t).2 = 13)) }) ∧
    ((q.send t).2 = 0 → (pick c.kind 9 < 2 → n = q.next ∧ (q.send t).1.next = q.next + 1) ∧ (¬ pick c.kind 9 < 2 → (q.send t).1.next = q.next)) := fun t n => by
    obtain ⟨k1, k2, k3⟩ := send_may q t
    exact ⟨by omega, by omega, fun he => (k2 he).trans (same h2), fun _ => ⟨fun h => absurd h h2, fun _ => k3⟩⟩
  split
  · exact sendC _ _
  split
  · exact sendC _ _
  split
  · obtain ⟨k1, k2, k3⟩ := reply_may q c.txn c.ok
    exact ⟨by simp only; omega, by simp only; omega, fun he => (k2 he).trans (same h2), fun _ => ⟨fun h => absurd h h2, fun _ => k3⟩⟩
  split
  · obtain ⟨k1, k2, k3⟩ := pass_may q c.n
    exact ⟨by simp only; omega, by simp only; omega, fun he => (k2 he).trans (same h2), fun _ => ⟨fun h => absurd h h2, fun _ => k3⟩⟩
  split
  · exact ⟨Int.le_refl _, Int.le_refl _, fun he => absurd rfl he, fun _ => ⟨fun h => absurd h h2, fun _ => rfl⟩⟩
  split
  · exact ⟨Int.le_refl _, Int.le_refl _, fun he => absurd rfl he, fun _ => ⟨fun h => absurd h h2, fun _ => rfl⟩⟩
  · exact ⟨Int.le_refl _, Int.le_refl _, fun he => absurd rfl he, fun _ => ⟨fun h => absurd h h2, fun _ => rfl⟩⟩

/-! ### QueueOnce -/
/-- The jobs' numbers, with their actions. -/
def ents (l : List Job) : List (Int × Act) := l.map fun j => (j.txn, j.act)
/-- What is left of them without a number. -/
def cut (es : List (Int × Act)) (t : Int) : List (Int × Act) := es.filter fun e => !decide (e.1 = t)
def cuts (es : List (Int × Act)) (ts : List Int) : List (Int × Act) := ts.foldl cut es
theorem cuts_eq (es : List (Int × Act)) : ∀ ts : List Int, cuts es ts = es.filter fun e => !decide (e.1 ∈ ts)
  | [] => by
    simp only [cuts, List.foldl_nil, List.not_mem_nil, decide_false, Bool.not_false]
    exact (List.filter_eq_self.2 fun _ _ => rfl).symm
  | t :: ts => by
    show cuts (cut es t) ts = _
    rw [cuts_eq (cut es t) ts, cut, List.filter_filter]
    congr 1
    funext e
    simp only [List.mem_cons]
    by_cases h1 : e.1 = t <;> by_cases h2 : e.1 ∈ ts <;> simp [h1, h2]
theorem cut_mem {es : List (Int × Act)} {t : Int} {e : Int × Act} (h : e ∈ es) (hn : e.1 ≠ t) : e ∈ cut es t := List.mem_filter.2 ⟨h, by simp [hn]⟩

theorem txn_uniq : ∀ {l : List Job}, l.Pairwise (fun a b => a.txn < b.txn) → ∀ {x y : Job}, x ∈ l → y ∈ l → x.txn = y.txn → x = y
  | [], _, x, y, hx, _, _ => by cases hx
  | j :: l, up, x, y, hx, hy, h => by
    rw [List.pairwise_cons] at up
    rcases List.mem_cons.1 hx with h1 | h1 <;> rcases List.mem_cons.1 hy with h2 | h2
    · rw [h1, h2]
    · have := up.1 _ h2; rw [h1] at h; omega
    · have := up.1 _ h1; rw [h2] at h; omega
    · exact txn_uniq up.2 h1 h2 h
theorem ents_filter {l : List Job} (up : l.Pairwise (fun a b => a.txn < b.txn)) (p : Job → Bool) : cuts (ents l) ((l.filter p).map (·.txn)) = ents (l.filter fun j => !p j) := by
  rw [cuts_eq]
  unfold ents
  rw [List.filter_map]
  congr 1
  apply List.filter_congr
  intro j hj
  simp only [Function.comp]
  congr 1
  rw [Bool.eq_iff_iff, decide_eq_true_eq, List.mem_map]
  constructor
  · rintro ⟨k, hk, h⟩
    obtain ⟨h1, h2⟩ := List.mem_filter.1 hk
    rw [← txn_uniq up h1 hj h]
    exact h2
  · exact fun h => ⟨j, List.mem_filter.2 ⟨hj, h⟩, rfl⟩
theorem ents_erase {l : List Job} (up : l.Pairwise (fun a b => a.txn < b.txn)) {i : Nat} {t : Int} (h : place l t = some i) : cut (ents l) t = ents (l.eraseIdx i) := by
  obtain ⟨h1, h2, h3⟩ := place_some h
  have e := ents_filter up (fun j => decide (j.txn = t))
  have hl : l = l.take i ++ l.getD i .zero :: l.drop (i + 1) := by
    have hg : l.getD i .zero = l[i] := by simp [List.getD_eq_getElem?_getD, h1]
    rw [hg, ← List.drop_eq_getElem_cons h1, List.take_append_drop]
  have hne : ∀ j ∈ l.take i ++ l.drop (i + 1), ¬ j.txn = t := by
    rw [hl] at up
    obtain ⟨_, u1, u2⟩ := List.pairwise_append.1 up
    intro j hj hjt
    rcases List.mem_append.1 hj with hj | hj
    · have := u2 j hj _ List.mem_cons_self
      omega
    · have := (List.pairwise_cons.1 u1).1 j hj
      omega
  have e2 : (l.filter fun j => !decide (j.txn = t)) = l.eraseIdx i := by
    rw [List.eraseIdx_eq_take_drop_succ]
    conv => lhs; rw [hl]
    rw [List.filter_append, List.filter_cons_of_neg (by simp; exact h2), ← List.filter_append]
    exact List.filter_eq_self.2 fun j hj => by simp [hne j hj]
  rw [← e2]
  unfold ents cut
  rw [List.filter_map]
  rfl
theorem ents_map {l : List Job} {f : Job → Job} (h1 : ∀ j, (f j).txn = j.txn) (h2 : ∀ j, (f j).act = j.act) : ents (l.map f) = ents l := by
  unfold ents
  rw [List.map_map]
  congr 1
  funext j
  simp [h1, h2]
theorem ents_set {l : List Job} {i : Nat} {j : Job} (h : l[i]? = some j) {k : Job} (h1 : k.txn = j.txn) (h2 : k.act = j.act) : ents (l.set i k) = ents l := by
  unfold ents
  apply List.ext_getElem?
  intro n
  simp only [List.getElem?_map, List.getElem?_set]
  split
  · rename_i e
    subst e
    rw [h]
    split <;> simp_all
  · rfl
/-- The law's list behind a call. -/
def after (es : List (Int × Act)) (c : Call) (e what n : Int) (gone : List Job) : List (Int × Act) :=
  let es1 := if pick c.kind 9 < 2 ∧ e = 0 then es ++ [(n, c.a)] else es
  let es2 := cuts es1 (gone.map (·.txn))
  if pick c.kind 9 = 4 ∧ e = 0 ∧ what ≠ 2 then cut es2 c.txn else es2
theorem send_ents (q : Que) (t : Int) : ents (q.send t).1.jobs = ents q.jobs := by
  unfold Que.send
  split
  · rfl
  rename_i i hi
  obtain ⟨h1, h2, h3⟩ := place_some hi
  simp only
  split
  · rfl
  · exact ents_set h3 rfl rfl
theorem put_ents (q : Que) (a : Act) : ents (q.put a).1.jobs = if (q.put a).2.2 = 0 then ents q.jobs ++ [((q.put a).2.1, a)] else ents q.jobs := by
  unfold Que.put
  repeat' split
  all_goals simp_all [ents]
theorem reply_ents {q : Que} (v : Valid q) (t : Int) (ok : Bool) : ents (q.reply t ok).1.jobs = if (q.reply t ok).2.2 = 0 ∧ (q.reply t ok).2.1 ≠ 2 then cut (ents q.jobs) t else ents q.jobs := by
  unfold Que.reply
  split
  · rfl
  rename_i i hi
  obtain ⟨h1, h2, h3⟩ := place_some hi
  simp only
  repeat' split
  all_goals simp_all
  · exact (ents_erase v.up hi).symm
  · exact (ents_erase v.up hi).symm
  · exact ents_set (List.getElem?_eq_getElem h1) h2.symm rfl

/-- QueueOnce, for one call. -/
theorem do_once {q : Que} (v : Valid q) (c : Call) : ents (doQ q c).1.jobs = after (ents q.jobs) c (doQ q c).2.1 (doQ q c).2.2.1 (doQ q c).2.2.2.1 (doQ q c).2.2.2.2 ∧
    (pick c.kind 9 < 2 → (doQ q c).2.1 = 0 → (∀ e ∈ ents q.jobs, e.1 ≠ (doQ q c).2.2.2.1) ∧ ∀ b ∈ q.failed ++ q.settled, b.alike c.a = false) ∧
    (∀ j ∈ (doQ q c).2.2.2.2, j.fly = false ∧ j.doubt = false ∧ j ∈ q.jobs ∧ ¬ pick c.kind 9 < 2) ∧
    (doQ q c).2.2.2.2.Pairwise (fun a b => a.txn < b.txn) := by
  have hr := pick_range c.kind 9 (by omega)
  unfold doQ after
  split
  · rename_i h
    have h2 : pick c.kind 9 < 2 := by omega
    have h4 : ¬ pick c.kind 9 = 4 := by omega
    refine ⟨?_, fun _ he => ⟨fun e hm => ?_, fun b hb => ?_⟩, by simp, by simp⟩
    · rw [put_ents]
      simp only [h2, h4, true_and, false_and, if_false]
      rfl
    · simp only at he
      obtain ⟨j, hj, rfl⟩ := List.mem_map.1 hm
      have := (v.js j hj).2.1
      have := ((put_may q c.a).2.2.1 he).1
      simp only
      omega
    · simp only at he
      unfold Que.put at he
      split at he
      · cases he
      split at he
      · cases he
      rename_i h3
      simp only [Bool.not_eq_true, List.any_eq_false] at h3
      rw [alike_symm]
      have := h3 b (List.mem_append_right _ hb)
      simpa using this
  have h2 : ¬ pick c.kind 9 < 2 := by omega
  split
  · rename_i h
    have h4 : ¬ pick c.kind 9 = 4 := by omega
    exact ⟨by simp only [h2, h4, false_and, if_false]; exact send_ents _ _, fun h => absurd h h2, by simp, by simp⟩
  split
  · rename_i h
    have h4 : ¬ pick c.kind 9 = 4 := by omega
    exact ⟨by simp only [h2, h4, false_and, if_false]; exact send_ents _ _, fun h => absurd h h2, by simp, by simp⟩
  split
  · rename_i h
    refine ⟨?_, fun h => absurd h h2, by simp, by simp⟩
    rw [reply_ents v]
    simp only [h2, h, true_and, false_and, if_false]
    rfl
  split
  · rename_i h
    have h4 : ¬ pick c.kind 9 = 4 := by omega
    refine ⟨?_, fun h => absurd h h2, by simp, by simp⟩
    simp only [h2, h4, false_and, if_false]
    unfold Que.pass
    repeat' split
    all_goals rfl
  split
  · rename_i h
    have h4 : ¬ pick c.kind 9 = 4 := by omega
    refine ⟨?_, fun h => absurd h h2, fun j hj => ?_, v.up.sublist List.filter_sublist⟩
    · simp only [h2, h4, false_and, if_false]
      exact (ents_filter v.up (goes c.keep)).symm
    · obtain ⟨k1, k2⟩ := List.mem_filter.1 hj
      simp only [goes, Job.waits, Bool.and_eq_true, Bool.not_eq_true'] at k2
      exact ⟨k2.1.1, k2.1.2, k1, h2⟩
  split
  · rename_i h
    have h4 : ¬ pick c.kind 9 = 4 := by omega
    refine ⟨?_, fun h => absurd h h2, by simp, by simp⟩
    simp only [h2, h4, false_and, if_false]
    exact ents_map (fun _ => rfl) (fun _ => rfl)
  · rename_i h
    have h4 : ¬ pick c.kind 9 = 4 := by omega
    exact ⟨by simp only [h2, h4, false_and, if_false]; rfl, fun h => absurd h h2, by simp, by simp⟩

/-- What is under a number. -/
def under (es : List (Int × Act)) (t : Int) : Option Act := (es.find? fun e => decide (e.1 = t)).map (·.2)
theorem under_mem {es : List (Int × Act)} (hu : ∀ x ∈ es, ∀ y ∈ es, x.1 = y.1 → x = y) {t : Int} {a : Act} (h : (t, a) ∈ es) : under es t = some a := by
  unfold under
  cases hf : es.find? (fun e => decide (e.1 = t)) with
  | none =>
    have := List.find?_eq_none.1 hf _ h
    simp at this
  | some x =>
    have h1 := List.mem_of_find?_eq_some hf
    have h2 : x.1 = t := by simpa using List.find?_some hf
    rw [hu x h1 _ h h2]
    rfl
theorem under_none {es : List (Int × Act)} {t : Int} (h : ∀ e ∈ es, e.1 ≠ t) : under es t = none := by
  unfold under
  rw [List.find?_eq_none.2 fun x hx => by simp [h x hx]]
  rfl
theorem ents_uniq {l : List Job} (up : l.Pairwise (fun a b => a.txn < b.txn)) : ∀ x ∈ ents l, ∀ y ∈ ents l, x.1 = y.1 → x = y := by
  intro x hx y hy h
  obtain ⟨j, hj, rfl⟩ := List.mem_map.1 hx
  obtain ⟨k, hk, rfl⟩ := List.mem_map.1 hy
  rw [txn_uniq up hj hk h]
/-- What goes is there until it is cut. -/
theorem under_gone {q : Que} (v : Valid q) {gone : List Job} (hg : ∀ j ∈ gone, j ∈ q.jobs) (up : gone.Pairwise (fun a b => a.txn < b.txn)) {k : Nat} {j : Job} (hj : gone[k]? = some j) : under (cuts (ents q.jobs) ((gone.take k).map (·.txn))) j.txn = some j.act := by
  have hm := List.mem_of_getElem? hj
  rw [cuts_eq]
  refine under_mem (fun x hx y hy => ents_uniq v.up x (List.mem_filter.1 hx).1 y (List.mem_filter.1 hy).1) (List.mem_filter.2 ⟨List.mem_map.2 ⟨j, hg j hm, rfl⟩, ?_⟩)
  simp only [Bool.not_eq_true', decide_eq_false_iff_not, List.mem_map, not_exists, not_and]
  intro x hx hxt
  obtain ⟨h1, h2⟩ := List.getElem?_eq_some_iff.1 hj
  have e : gone = gone.take k ++ gone.drop k := (List.take_append_drop k gone).symm
  rw [e] at up
  have hjd : j ∈ gone.drop k := by
    rw [List.drop_eq_getElem_cons h1, h2]
    exact List.mem_cons_self
  have := (List.pairwise_append.1 up).2.2 x hx j hjd
  omega

end Go.Gi
