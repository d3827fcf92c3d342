/- Queues: the table with the references; a call of the laws', by the references. -/
/- Queues: QueueScript. -/
/- Queues: QueueScript's function returns true, whatever the queue, the calls and the numbers are, if no list has more than 1073741824 elements. -/
import Derived.Test.YtakdhioafodhcaaGiQuRX
import Derived.Test.YtakdhioafodhcaaGiQuRE
set_option linter.unusedVariables false
set_option linter.unusedSimpArgs false
namespace Go.Gi
section
open Go Go.Proofs

theorem rOwn (q : Que) (hq : Fits q) : PC Try.prog 32 [.agg q.c] (.agg q.c) := by
  refine pc_of (nidL_ok (by rw [nidL, queN]; rfl)) ((mOwn q hq []).mono fun r hp' h => ?_)
  obtain ⟨rfl, rfl⟩ := h
  refine frz_ok ?_
  have f1 : frz ([] ++ cloneH q) (osl 3 q.jobs.length 10) = some (encJ.S q.jobs) := oslJ_frz rfl
  have f2 : frz ([] ++ cloneH q) (osl 5 q.failed.length 5) = some (encA.S q.failed) := oslA_frz rfl
  have f3 : frz ([] ++ cloneH q) (osl 7 q.settled.length 5) = some (encA.S q.settled) := oslA_frz rfl
  simp only [cloneV, List.length_nil, Nat.zero_add, frz_agg, frzL, f1, f2, f3, frz]
  rfl
theorem pSameJ (l m : List Job) (hl : l.length ≤ most) (hm : m.length ≤ most) : PCF Try.prog 38 [encJ.S l, encJ.S m] (.bool (decide (l = m))) := by
  simp only [most] at hl
  exact same_pc hmG elJ true comp38 (by omega)
def TR3 : Tab := (((((((((((((((((((T10).addO 77 (.cons .que (.cons .act .nil)) fun p => if OkQ p.1 then some (.rd true (putV p.1 p.2.1)) else none).addO 78 (.cons .que (.cons .i64 .nil)) fun p => if Fits p.1 then some (.rd true (.tup [.agg (p.1.send p.2.1).1.c, .int .i64 (p.1.send p.2.1).2])) else none).addO 79 (.cons .que (.cons .i64 (.cons .bool .nil))) fun p => if OkQ p.1 then some (.rd false (.tup [.agg (p.1.reply p.2.1 p.2.2.1).1.c, .int .i64 (p.1.reply p.2.1 p.2.2.1).2.1, .int .i64 (p.1.reply p.2.1 p.2.2.1).2.2])) else none).addO 80 (.cons .que (.cons .i64 .nil)) fun p => if OkQ p.1 then some (.rd true (.tup [.agg (p.1.pass p.2.1).1.c, .int .i64 (p.1.pass p.2.1).2])) else none).addO 81 (.cons .que (.cons (.S encA) .nil)) fun p => if Fits p.1 ∧ p.2.1.length ≤ most then some (.rd false (.tup [.agg (p.1.withdraw p.2.1).1.c, encJ.S (p.1.withdraw p.2.1).2])) else none).addO 82 (.cons .que .nil) fun p => if Fits p.1 then some (.rd true (.agg p.1.land.c)) else none).addO 83 (.cons .que .nil) fun p => if Fits p.1 then some (.rd true (.agg p.1.clear.c)) else none).addO 34 (.cons .que (.cons (.S encI) .nil)) fun p => if Fits p.1 ∧ p.2.1.length ≤ most then some (.rd true (.tup [.agg (p.1.nxt p.2.1).1.c, .bool (p.1.nxt p.2.1).2])) else none).addO 32 (.cons .que .nil) fun p => if Fits p.1 then some (.rd false (.agg p.1.c)) else none).addO 29 (.cons .que .nil) fun p => if Fits p.1 then some (.rd true (.int .i64 p.1.check)) else none).addR 31 (.cons .i64 .nil) fun p => .rd true (.int .i64 (backoff p.1))).addO 36 (.cons .que (.cons .i64 .nil)) fun p => if Fits p.1 then some (.rd true (.tup [.agg (p.1.find p.2.1).1.c, .bool (p.1.find p.2.1).2])) else none).addO 37 (.cons .que (.cons .que .nil)) fun p => if Fits p.1 then some (.rd true (.bool (decide (p.1 = p.2.1)))) else none).addR 39 (.cons .act (.cons .act .nil)) fun p => .rd true (.bool (p.1.alike p.2.1))).addR 25 (.cons .act (.cons .act .nil)) fun p => .rd true (.bool (p.1.alike p.2.1))).addR 30 (.cons .i64 .nil) fun p => .rd true (.int .i64 (backoff p.1))).addO 35 (.cons .que (.cons .i64 .nil)) fun p => if Fits p.1 then some (.rd true (.tup [.agg (p.1.find p.2.1).1.c, .bool (p.1.find p.2.1).2])) else none).addO 38 (.cons (.S encJ) (.cons (.S encJ) .nil)) fun p => if p.1.length ≤ most ∧ p.2.1.length ≤ most then some (.rd true (.bool (decide (p.1 = p.2.1)))) else none).addO 20 (.cons .que (.cons (.S encI) .nil)) fun p => if Fits p.1 ∧ p.2.1.length ≤ most then some (.rd true (.tup [.agg (p.1.nxt p.2.1).1.c, .bool (p.1.nxt p.2.1).2])) else none
theorem TR3_ok : TabOk Try.prog TR3 := by
  refine TabOk.addO (TabOk.addO (TabOk.addO (TabOk.addR (TabOk.addR (TabOk.addR (TabOk.addO (TabOk.addO (TabOk.addR (TabOk.addO (TabOk.addO (TabOk.addO (TabOk.addO (TabOk.addO (TabOk.addO (TabOk.addO (TabOk.addO (TabOk.addO (TabOk.addO (T10_ok) ?_) ?_) ?_) ?_) ?_) ?_) ?_) ?_) ?_) ?_) ?_) ?_) ?_) ?_) ?_) ?_) ?_) ?_) ?_
  · intro p r h
    split at h
    · rename_i hv; cases h; exact rPut p.1 hv.fits p.2.1 hv.n1 hv.n2
    · cases h
  · intro p r h
    split at h
    · rename_i hv; cases h; exact rSend p.1 hv p.2.1
    · cases h
  · intro p r h
    split at h
    · rename_i hv; cases h; exact rReply p.1 hv.fits p.2.1 p.2.2.1 hv.t1 hv.t2 hv.tr
    · cases h
  · intro p r h
    split at h
    · rename_i hv; cases h; exact rPass p.1 hv.fits p.2.1 hv.t1 hv.t2
    · cases h
  · intro p r h
    split at h
    · rename_i hv; cases h; exact rWithdraw p.1 hv.1 p.2.1 hv.2
    · cases h
  · intro p r h
    split at h
    · rename_i hv; cases h; exact rLand p.1 hv
    · cases h
  · intro p r h
    split at h
    · rename_i hv; cases h; exact rClear p.1 hv
    · cases h
  · intro p r h
    split at h
    · rename_i hv; cases h; exact rNext p.1 hv.1.j p.2.1 hv.2
    · cases h
  · intro p r h
    split at h
    · rename_i hv; cases h; exact rOwn p.1 hv
    · cases h
  · intro p r h
    split at h
    · rename_i hv; cases h; exact rCheck p.1 hv
    · cases h
  · exact fun p => rBackoff p.1
  · intro p r h
    split at h
    · rename_i hv; cases h; exact rFind p.1 hv.j p.2.1
    · cases h
  · intro p r h
    split at h
    · rename_i hv; cases h; exact rSame p.1 p.2.1 hv
    · cases h
  · exact fun p => rAlike p.1 p.2.1
  · exact fun p => pAlike p.1 p.2.1
  · exact fun p => pBackoff p.1
  · intro p r h
    split at h
    · rename_i hv; cases h; exact pFind p.1 hv p.2.1
    · cases h
  · intro p r h
    split at h
    · rename_i hv; cases h; exact pSameJ p.1 p.2.1 hv.1 hv.2
    · cases h
  · intro p r h
    split at h
    · rename_i hv; cases h; exact pNext p.1 hv.1 p.2.1 hv.2
    · cases h
theorem TR3_put {q : Que} {a : Act} (g : OkQ q) : TR3 77 [.agg q.c, .agg a.c] = some (.rd true (putV q a)) := by
  rw [TR3, Tab.addO_ne _ _ _ _ rfl, Tab.addO_ne _ _ _ _ rfl, Tab.addO_ne _ _ _ _ rfl, Tab.addR_ne _ _ _ _ rfl, Tab.addR_ne _ _ _ _ rfl, Tab.addR_ne _ _ _ _ rfl, Tab.addO_ne _ _ _ _ rfl, Tab.addO_ne _ _ _ _ rfl, Tab.addR_ne _ _ _ _ rfl, Tab.addO_ne _ _ _ _ rfl, Tab.addO_ne _ _ _ _ rfl, Tab.addO_ne _ _ _ _ rfl, Tab.addO_ne _ _ _ _ rfl, Tab.addO_ne _ _ _ _ rfl, Tab.addO_ne _ _ _ _ rfl, Tab.addO_ne _ _ _ _ rfl, Tab.addO_ne _ _ _ _ rfl, Tab.addO_ne _ _ _ _ rfl]
  exact (Tab.addO_self _ _ (.cons .que (.cons .act .nil)) _ (q,  a, ())).trans (if_pos g)
theorem TR3_send {q : Que} {n : Int} (g : Fits q) : TR3 78 [.agg q.c, .int .i64 n] = some (.rd true (.tup [.agg (q.send n).1.c, .int .i64 (q.send n).2])) := by
  rw [TR3, Tab.addO_ne _ _ _ _ rfl, Tab.addO_ne _ _ _ _ rfl, Tab.addO_ne _ _ _ _ rfl, Tab.addR_ne _ _ _ _ rfl, Tab.addR_ne _ _ _ _ rfl, Tab.addR_ne _ _ _ _ rfl, Tab.addO_ne _ _ _ _ rfl, Tab.addO_ne _ _ _ _ rfl, Tab.addR_ne _ _ _ _ rfl, Tab.addO_ne _ _ _ _ rfl, Tab.addO_ne _ _ _ _ rfl, Tab.addO_ne _ _ _ _ rfl, Tab.addO_ne _ _ _ _ rfl, Tab.addO_ne _ _ _ _ rfl, Tab.addO_ne _ _ _ _ rfl, Tab.addO_ne _ _ _ _ rfl, Tab.addO_ne _ _ _ _ rfl]
  exact (Tab.addO_self _ _ (.cons .que (.cons .i64 .nil)) _ (q,  n, ())).trans (if_pos g)
theorem TR3_reply {q : Que} {n : Int} {b : Bool} (g : OkQ q) : TR3 79 [.agg q.c, .int .i64 n, .bool b] = some (.rd false (.tup [.agg (q.reply n b).1.c, .int .i64 (q.reply n b).2.1, .int .i64 (q.reply n b).2.2])) := by
  rw [TR3, Tab.addO_ne _ _ _ _ rfl, Tab.addO_ne _ _ _ _ rfl, Tab.addO_ne _ _ _ _ rfl, Tab.addR_ne _ _ _ _ rfl, Tab.addR_ne _ _ _ _ rfl, Tab.addR_ne _ _ _ _ rfl, Tab.addO_ne _ _ _ _ rfl, Tab.addO_ne _ _ _ _ rfl, Tab.addR_ne _ _ _ _ rfl, Tab.addO_ne _ _ _ _ rfl, Tab.addO_ne _ _ _ _ rfl, Tab.addO_ne _ _ _ _ rfl, Tab.addO_ne _ _ _ _ rfl, Tab.addO_ne _ _ _ _ rfl, Tab.addO_ne _ _ _ _ rfl, Tab.addO_ne _ _ _ _ rfl]
  exact (Tab.addO_self _ _ (.cons .que (.cons .i64 (.cons .bool .nil))) _ (q,  n,  b, ())).trans (if_pos g)
theorem TR3_pass {q : Que} {n : Int} (g : OkQ q) : TR3 80 [.agg q.c, .int .i64 n] = some (.rd true (.tup [.agg (q.pass n).1.c, .int .i64 (q.pass n).2])) := by
  rw [TR3, Tab.addO_ne _ _ _ _ rfl, Tab.addO_ne _ _ _ _ rfl, Tab.addO_ne _ _ _ _ rfl, Tab.addR_ne _ _ _ _ rfl, Tab.addR_ne _ _ _ _ rfl, Tab.addR_ne _ _ _ _ rfl, Tab.addO_ne _ _ _ _ rfl, Tab.addO_ne _ _ _ _ rfl, Tab.addR_ne _ _ _ _ rfl, Tab.addO_ne _ _ _ _ rfl, Tab.addO_ne _ _ _ _ rfl, Tab.addO_ne _ _ _ _ rfl, Tab.addO_ne _ _ _ _ rfl, Tab.addO_ne _ _ _ _ rfl, Tab.addO_ne _ _ _ _ rfl]
  exact (Tab.addO_self _ _ (.cons .que (.cons .i64 .nil)) _ (q,  n, ())).trans (if_pos g)
theorem TR3_withdraw {q : Que} {l : List Act} (g : Fits q ∧ l.length ≤ most) : TR3 81 [.agg q.c, encA.S l] = some (.rd false (.tup [.agg (q.withdraw l).1.c, encJ.S (q.withdraw l).2])) := by
  rw [TR3, Tab.addO_ne _ _ _ _ rfl, Tab.addO_ne _ _ _ _ rfl, Tab.addO_ne _ _ _ _ rfl, Tab.addR_ne _ _ _ _ rfl, Tab.addR_ne _ _ _ _ rfl, Tab.addR_ne _ _ _ _ rfl, Tab.addO_ne _ _ _ _ rfl, Tab.addO_ne _ _ _ _ rfl, Tab.addR_ne _ _ _ _ rfl, Tab.addO_ne _ _ _ _ rfl, Tab.addO_ne _ _ _ _ rfl, Tab.addO_ne _ _ _ _ rfl, Tab.addO_ne _ _ _ _ rfl, Tab.addO_ne _ _ _ _ rfl]
  exact (Tab.addO_self _ _ (.cons .que (.cons (.S encA) .nil)) _ (q,  l, ())).trans (if_pos g)
theorem TR3_land {q : Que} (g : Fits q) : TR3 82 [.agg q.c] = some (.rd true (.agg q.land.c)) := by
  rw [TR3, Tab.addO_ne _ _ _ _ rfl, Tab.addO_ne _ _ _ _ rfl, Tab.addO_ne _ _ _ _ rfl, Tab.addR_ne _ _ _ _ rfl, Tab.addR_ne _ _ _ _ rfl, Tab.addR_ne _ _ _ _ rfl, Tab.addO_ne _ _ _ _ rfl, Tab.addO_ne _ _ _ _ rfl, Tab.addR_ne _ _ _ _ rfl, Tab.addO_ne _ _ _ _ rfl, Tab.addO_ne _ _ _ _ rfl, Tab.addO_ne _ _ _ _ rfl, Tab.addO_ne _ _ _ _ rfl]
  exact (Tab.addO_self _ _ (.cons .que .nil) _ (q, ())).trans (if_pos g)
theorem TR3_clear {q : Que} (g : Fits q) : TR3 83 [.agg q.c] = some (.rd true (.agg q.clear.c)) := by
  rw [TR3, Tab.addO_ne _ _ _ _ rfl, Tab.addO_ne _ _ _ _ rfl, Tab.addO_ne _ _ _ _ rfl, Tab.addR_ne _ _ _ _ rfl, Tab.addR_ne _ _ _ _ rfl, Tab.addR_ne _ _ _ _ rfl, Tab.addO_ne _ _ _ _ rfl, Tab.addO_ne _ _ _ _ rfl, Tab.addR_ne _ _ _ _ rfl, Tab.addO_ne _ _ _ _ rfl, Tab.addO_ne _ _ _ _ rfl, Tab.addO_ne _ _ _ _ rfl]
  exact (Tab.addO_self _ _ (.cons .que .nil) _ (q, ())).trans (if_pos g)
theorem TR3_next {q : Que} {l : List Int} (g : Fits q ∧ l.length ≤ most) : TR3 34 [.agg q.c, encI.S l] = some (.rd true (.tup [.agg (q.nxt l).1.c, .bool (q.nxt l).2])) := by
  rw [TR3, Tab.addO_ne _ _ _ _ rfl, Tab.addO_ne _ _ _ _ rfl, Tab.addO_ne _ _ _ _ rfl, Tab.addR_ne _ _ _ _ rfl, Tab.addR_ne _ _ _ _ rfl, Tab.addR_ne _ _ _ _ rfl, Tab.addO_ne _ _ _ _ rfl, Tab.addO_ne _ _ _ _ rfl, Tab.addR_ne _ _ _ _ rfl, Tab.addO_ne _ _ _ _ rfl, Tab.addO_ne _ _ _ _ rfl]
  exact (Tab.addO_self _ _ (.cons .que (.cons (.S encI) .nil)) _ (q,  l, ())).trans (if_pos g)
theorem TR3_own {q : Que} (g : Fits q) : TR3 32 [.agg q.c] = some (.rd false (.agg q.c)) := by
  rw [TR3, Tab.addO_ne _ _ _ _ rfl, Tab.addO_ne _ _ _ _ rfl, Tab.addO_ne _ _ _ _ rfl, Tab.addR_ne _ _ _ _ rfl, Tab.addR_ne _ _ _ _ rfl, Tab.addR_ne _ _ _ _ rfl, Tab.addO_ne _ _ _ _ rfl, Tab.addO_ne _ _ _ _ rfl, Tab.addR_ne _ _ _ _ rfl, Tab.addO_ne _ _ _ _ rfl]
  exact (Tab.addO_self _ _ (.cons .que .nil) _ (q, ())).trans (if_pos g)
theorem TR3_check {q : Que} (g : Fits q) : TR3 29 [.agg q.c] = some (.rd true (.int .i64 q.check)) := by
  rw [TR3, Tab.addO_ne _ _ _ _ rfl, Tab.addO_ne _ _ _ _ rfl, Tab.addO_ne _ _ _ _ rfl, Tab.addR_ne _ _ _ _ rfl, Tab.addR_ne _ _ _ _ rfl, Tab.addR_ne _ _ _ _ rfl, Tab.addO_ne _ _ _ _ rfl, Tab.addO_ne _ _ _ _ rfl, Tab.addR_ne _ _ _ _ rfl]
  exact (Tab.addO_self _ _ (.cons .que .nil) _ (q, ())).trans (if_pos g)
theorem TR3_backoff {n : Int} : TR3 31 [.int .i64 n] = some (.rd true (.int .i64 (backoff n))) := by
  rw [TR3, Tab.addO_ne _ _ _ _ rfl, Tab.addO_ne _ _ _ _ rfl, Tab.addO_ne _ _ _ _ rfl, Tab.addR_ne _ _ _ _ rfl, Tab.addR_ne _ _ _ _ rfl, Tab.addR_ne _ _ _ _ rfl, Tab.addO_ne _ _ _ _ rfl, Tab.addO_ne _ _ _ _ rfl]
  exact Tab.addR_self _ _ (.cons .i64 .nil) _ (n, ())
theorem TR3_find {q : Que} {n : Int} (g : Fits q) : TR3 36 [.agg q.c, .int .i64 n] = some (.rd true (.tup [.agg (q.find n).1.c, .bool (q.find n).2])) := by
  rw [TR3, Tab.addO_ne _ _ _ _ rfl, Tab.addO_ne _ _ _ _ rfl, Tab.addO_ne _ _ _ _ rfl, Tab.addR_ne _ _ _ _ rfl, Tab.addR_ne _ _ _ _ rfl, Tab.addR_ne _ _ _ _ rfl, Tab.addO_ne _ _ _ _ rfl]
  exact (Tab.addO_self _ _ (.cons .que (.cons .i64 .nil)) _ (q,  n, ())).trans (if_pos g)
theorem TR3_same {q r : Que} (g : Fits q) : TR3 37 [.agg q.c, .agg r.c] = some (.rd true (.bool (decide (q = r)))) := by
  rw [TR3, Tab.addO_ne _ _ _ _ rfl, Tab.addO_ne _ _ _ _ rfl, Tab.addO_ne _ _ _ _ rfl, Tab.addR_ne _ _ _ _ rfl, Tab.addR_ne _ _ _ _ rfl, Tab.addR_ne _ _ _ _ rfl]
  exact (Tab.addO_self _ _ (.cons .que (.cons .que .nil)) _ (q,  r, ())).trans (if_pos g)
theorem TR3_alike {a b : Act} : TR3 39 [.agg a.c, .agg b.c] = some (.rd true (.bool (a.alike b))) := by
  rw [TR3, Tab.addO_ne _ _ _ _ rfl, Tab.addO_ne _ _ _ _ rfl, Tab.addO_ne _ _ _ _ rfl, Tab.addR_ne _ _ _ _ rfl, Tab.addR_ne _ _ _ _ rfl]
  exact Tab.addR_self _ _ (.cons .act (.cons .act .nil)) _ (a,  b, ())
theorem TR3_palike {a b : Act} : TR3 25 [.agg a.c, .agg b.c] = some (.rd true (.bool (a.alike b))) := by
  rw [TR3, Tab.addO_ne _ _ _ _ rfl, Tab.addO_ne _ _ _ _ rfl, Tab.addO_ne _ _ _ _ rfl, Tab.addR_ne _ _ _ _ rfl]
  exact Tab.addR_self _ _ (.cons .act (.cons .act .nil)) _ (a,  b, ())
theorem TR3_pbackoff {n : Int} : TR3 30 [.int .i64 n] = some (.rd true (.int .i64 (backoff n))) := by
  rw [TR3, Tab.addO_ne _ _ _ _ rfl, Tab.addO_ne _ _ _ _ rfl, Tab.addO_ne _ _ _ _ rfl]
  exact Tab.addR_self _ _ (.cons .i64 .nil) _ (n, ())
theorem TR3_pfind {q : Que} {n : Int} (g : Fits q) : TR3 35 [.agg q.c, .int .i64 n] = some (.rd true (.tup [.agg (q.find n).1.c, .bool (q.find n).2])) := by
  rw [TR3, Tab.addO_ne _ _ _ _ rfl, Tab.addO_ne _ _ _ _ rfl]
  exact (Tab.addO_self _ _ (.cons .que (.cons .i64 .nil)) _ (q,  n, ())).trans (if_pos g)
theorem TR3_samej {l m : List Job} (g : l.length ≤ most ∧ m.length ≤ most) : TR3 38 [encJ.S l, encJ.S m] = some (.rd true (.bool (decide (l = m)))) := by
  rw [TR3, Tab.addO_ne _ _ _ _ rfl]
  exact (Tab.addO_self _ _ (.cons (.S encJ) (.cons (.S encJ) .nil)) _ (l,  m, ())).trans (if_pos g)
theorem TR3_pnext {q : Que} {l : List Int} (g : Fits q ∧ l.length ≤ most) : TR3 20 [.agg q.c, encI.S l] = some (.rd true (.tup [.agg (q.nxt l).1.c, .bool (q.nxt l).2])) := by
  exact (Tab.addO_self _ _ (.cons .que (.cons (.S encI) .nil)) _ (q,  l, ())).trans (if_pos g)
theorem TR3_ne {g : FuncId} {xs : List AV} (h : (Nat.beq g 77 || Nat.beq g 78 || Nat.beq g 79 || Nat.beq g 80 || Nat.beq g 81 || Nat.beq g 82 || Nat.beq g 83 || Nat.beq g 34 || Nat.beq g 32 || Nat.beq g 29 || Nat.beq g 31 || Nat.beq g 36 || Nat.beq g 37 || Nat.beq g 39 || Nat.beq g 25 || Nat.beq g 30 || Nat.beq g 35 || Nat.beq g 38 || Nat.beq g 20) = false) : TR3 g xs = T10 g xs := by
  simp only [Bool.or_eq_false_iff] at h
  rw [TR3, Tab.addO_ne _ _ _ _ h.2, Tab.addO_ne _ _ _ _ h.1.2, Tab.addO_ne _ _ _ _ h.1.1.2, Tab.addR_ne _ _ _ _ h.1.1.1.2, Tab.addR_ne _ _ _ _ h.1.1.1.1.2, Tab.addR_ne _ _ _ _ h.1.1.1.1.1.2, Tab.addO_ne _ _ _ _ h.1.1.1.1.1.1.2, Tab.addO_ne _ _ _ _ h.1.1.1.1.1.1.1.2, Tab.addR_ne _ _ _ _ h.1.1.1.1.1.1.1.1.2, Tab.addO_ne _ _ _ _ h.1.1.1.1.1.1.1.1.1.2, Tab.addO_ne _ _ _ _ h.1.1.1.1.1.1.1.1.1.1.2, Tab.addO_ne _ _ _ _ h.1.1.1.1.1.1.1.1.1.1.1.2, Tab.addO_ne _ _ _ _ h.1.1.1.1.1.1.1.1.1.1.1.1.2, Tab.addO_ne _ _ _ _ h.1.1.1.1.1.1.1.1.1.1.1.1.1.2, Tab.addO_ne _ _ _ _ h.1.1.1.1.1.1.1.1.1.1.1.1.1.1.2, Tab.addO_ne _ _ _ _ h.1.1.1.1.1.1.1.1.1.1.1.1.1.1.1.2, Tab.addO_ne _ _ _ _ h.1.1.1.1.1.1.1.1.1.1.1.1.1.1.1.1.2, Tab.addO_ne _ _ _ _ h.1.1.1.1.1.1.1.1.1.1.1.1.1.1.1.1.1.2, Tab.addO_ne _ _ _ _ h.1.1.1.1.1.1.1.1.1.1.1.1.1.1.1.1.1.1]

set_option maxHeartbeats 4000000 in
theorem rDoes (q : Que) (hq : OkQ q) (c : Call) (hk : c.keep.length ≤ most) : PC Try.prog 33 [.agg q.c, .agg c.c] (doV q c) := by
  refine pc_e hmG TR3_ok comp33 (by decide) (by simp) (nidL_ok (by rw [nidL, queN]; simp only [nidL, nid, Call.c, Enc.S_nid, Bool.and_self])) ?_
  have hcl : True := trivial
  have c0 : TR3 18 [.int .i64 c.kind, .int .i64 9] = _ := (TR3_ne rfl).trans ((T10_ne rfl).trans ((T8_ne rfl).trans (T7_pick c.kind 9 (by omega))))
  have hr := pick_range c.kind 9 (by omega)
  have hc0 : pickA none c.c 0 = some (.int .i64 c.kind) := rfl
  have hc1 : pickA (some 5) c.c 1 = some (.agg c.a.c) := rfl
  have hc6 : pickA none c.c 6 = some (.int .i64 c.txn) := rfl
  have hc7 : pickA none c.c 7 = some (.int .i64 c.n) := rfl
  have hc8 : pickA none c.c 8 = some (.bool c.ok) := rfl
  have hc9 : pickA none c.c 9 = some (encA.S c.keep) := rfl
  have hcc : cellsA (.agg c.c) = c.c := rfl
  refine vcE.step (by simp (disch := first | assumption | omega | with_unfolding_all rfl) only [exC, exOps, exOp, wantedE, ↓reduceIte, ROp.run, evsE, evE, ty, List.getD_cons_zero, tz, List.length_nil, List.nil_append, putE, Nat.reduceEqDiff, List.getD_cons_succ, List.length_cons, List.cons_append, allocA, Nat.reduceAdd]; rfl) ?_
  have fin : ∀ {tm : Env} {hp : HP}, doV q c = .tup [.agg (doQ q c).1.c, tm 5, tm 6, tm 7, encJ.S (doQ q c).2.2.2.2] ∧ tm 4 = .ptr 2 0 ∧ hp[2]? = some (some (.row 29 (doQ q c).1.c)) ∧ frz hp (tm 8) = some (encJ.S (doQ q c).2.2.2.2) → RetE [.cell 4 (some 6), .t 5, .t 6, .t 7, .t 8] (fun r' hp' => frz hp' r' = some (doV q c)) .ret tm hp := by
    rintro tm hp ⟨hd, e4, eh, e8⟩
    have hpk : pickA (some 6) (doQ q c).1.c 0 = some (.agg (doQ q c).1.c) := rfl
    refine ⟨.tup [.agg (doQ q c).1.c, tm 5, tm 6, tm 7, tm 8], ?_, ?_⟩
    · simp only [resE, resEL, resE1, e4, loadA, rowA, eh, hpk]
    · rw [hd]
      simp only [doV, AV.tup.injEq, List.cons.injEq, true_and, and_true] at hd
      obtain ⟨h5, h6, h7⟩ := hd
      rw [← h5, ← h6, ← h7, frz_tup]
      simp only [frzL, frz_agg, queL_frz, frz, e8]
  refine vcE.then (fun e tm hp => (e = .ret ∧ doV q c = .tup [.agg (doQ q c).1.c, tm 5, tm 6, tm 7, encJ.S (doQ q c).2.2.2.2] ∧ tm 4 = .ptr 2 0 ∧ hp[2]? = some (some (.row 29 (doQ q c).1.c)) ∧ frz hp (tm 8) = some (encJ.S (doQ q c).2.2.2.2)) ∨ (e = .normal ∧ pick c.kind 9 = 8 ∧ tm 2 = .ptr 0 0 ∧ tm 4 = .ptr 2 0 ∧ hp = [some (.row 29 q.c), some (.row 50 c.c), some (.row 29 [.nils, .int .i64 0, .int .i64 0, .nils, .nils, .bool false])])) ?_ ?_
  · refine vcE.step (by simp (disch := first | assumption | omega | with_unfolding_all rfl) only [exC, exOps, exOp, wantedE, ↓reduceIte, ROp.run, evsE, evE, ty, Nat.reduceEqDiff, same, faddrA, Option.map_some, putE, loadA, rowA, List.getElem?_cons_succ, List.getElem?_cons_zero, ↓hc0, List.append_nil, frzL, tz, c0, Cls.isFree, callCls, nidL]; rfl) (vcE.block ?_)
    generalize hm : pick c.kind 9 = m at *
    obtain ⟨m1, m2⟩ := hr
    have hm' : m = 0 ∨ m = 1 ∨ m = 2 ∨ m = 3 ∨ m = 4 ∨ m = 5 ∨ m = 6 ∨ m = 7 ∨ m = 8 := by omega
    rcases hm' with rfl | rfl | rfl | rfl | rfl | rfl | rfl | rfl | rfl
    · have hd : doQ q c = ((q.put c.a).1, (q.put c.a).2.2, 0, (q.put c.a).2.1, []) := by simp [doQ, hm]
      have k1 : TR3 77 [.agg q.c, .agg c.a.c] = _ := TR3_put (a := c.a) hq
      refine vcE.ex (by simp (disch := first | assumption | omega | with_unfolding_all rfl) only [exC, exOps, exOp, wantedE, ↓reduceIte, ROp.run, evsE, evE, ty, same, binA, intA, dec_true, Option.map_some, putE, Nat.reduceEqDiff, loadA, rowA, List.getElem?_cons_zero, ↓pickQ, faddrA, List.getElem?_cons_succ, ↓hc1, List.append_nil, frzL, frz_agg, queL_frz, actL_frz, k1, Cls.isFree, callCls, nidL, tz, queL_nid, actL_nid, allocA, storeA_eq, getA0, List.length_cons, List.length_nil, Nat.reduceAdd, Nat.reduceLeDiff, over, List.take_zero, List.nil_append, setA0, List.set_cons_zero, pickA]; rfl) ?_
      refine .inl ⟨rfl, ?_, ?_, ?_, ?_⟩
      · rw [doV, hd]
        rfl
      · simp only [upd_app, Nat.reduceEqDiff, ↓reduceIte]
      · rw [hd]
        rfl
      · rw [hd]
        simp only [upd_app, Nat.reduceEqDiff, ↓reduceIte]
        rfl
    · have hd : doQ q c = ((q.put c.a).1, (q.put c.a).2.2, 0, (q.put c.a).2.1, []) := by simp [doQ, hm]
      have k1 : TR3 77 [.agg q.c, .agg c.a.c] = _ := TR3_put (a := c.a) hq
      refine vcE.ex (by simp (disch := first | assumption | omega | with_unfolding_all rfl) only [exC, exOps, exOp, wantedE, ↓reduceIte, ROp.run, evsE, evE, ty, same, binA, intA, dec_false, Option.map_some, putE, Nat.reduceEqDiff, dec_true, loadA, rowA, List.getElem?_cons_zero, ↓pickQ, faddrA, List.getElem?_cons_succ, ↓hc1, List.append_nil, frzL, frz_agg, queL_frz, actL_frz, k1, Cls.isFree, callCls, nidL, tz, queL_nid, actL_nid, allocA, storeA_eq, getA0, List.length_cons, List.length_nil, Nat.reduceAdd, Nat.reduceLeDiff, over, List.take_zero, List.nil_append, setA0, List.set_cons_zero, pickA]; rfl) ?_
      refine .inl ⟨rfl, ?_, ?_, ?_, ?_⟩
      · rw [doV, hd]
        rfl
      · simp only [upd_app, Nat.reduceEqDiff, ↓reduceIte]
      · rw [hd]
        rfl
      · rw [hd]
        simp only [upd_app, Nat.reduceEqDiff, ↓reduceIte]
        rfl
    · have hd : doQ q c = ((q.send (q.nxt []).1.txn).1, (q.send (q.nxt []).1.txn).2, 0, (q.nxt []).1.txn, []) := by simp [doQ, hm]
      have k1 : TR3 34 [.agg q.c, .fsl [] 0] = _ := TR3_next (l := []) ⟨hq.fits, by simp⟩
      generalize hj : (q.nxt []).1 = j at *
      generalize (q.nxt []).2 = b at *
      have hj0 : pickA none j.c 0 = some (.int .i64 j.txn) := rfl
      have k2 : TR3 78 [.agg q.c, .int .i64 j.txn] = _ := TR3_send (n := j.txn) hq.fits
      refine vcE.step (by simp (disch := first | assumption | omega | with_unfolding_all rfl) only [exC, exOps, exOp, wantedE, ↓reduceIte, ROp.run, evsE, evE, ty, same, binA, intA, dec_false, Option.map_some, putE, Nat.reduceEqDiff]; rfl) (vcE.condFalse (by simp only [evE, upd_app, Nat.reduceEqDiff, ↓reduceIte]) (vcE.step (by simp (disch := first | assumption | omega | with_unfolding_all rfl) only [exC, exOps, exOp, wantedE, ↓reduceIte, ROp.run, evsE, evE, ty, Nat.reduceEqDiff, same, binA, intA, dec_true, Option.map_some, putE]; rfl) (vcE.condTrue (by simp only [evE, upd_app, Nat.reduceEqDiff, ↓reduceIte]) ?_)))
      refine vcE.step (by simp (disch := first | assumption | omega | with_unfolding_all rfl) only [exC, exOps, exOp, wantedE, ↓reduceIte, ROp.run, evsE, evE, ty, Nat.reduceEqDiff, same, loadA, rowA, List.getElem?_cons_zero, ↓pickQ, Option.map_some, putE, List.append_nil, frzL, frz_agg, queL_frz, tz, k1, Cls.isFree, callCls, nidL, queL_nid, List.getElem?_cons_succ, allocA, List.length_cons, List.length_nil, Nat.reduceAdd, List.cons_append, List.nil_append, storeA_eq, Job.c_len, Nat.reduceLeDiff, dec_true, over, List.take_zero, List.drop_succ_cons, List.drop_nil, List.set_cons_succ, List.set_cons_zero]; rfl) (vcE.step (by simp (disch := first | assumption | omega | with_unfolding_all rfl) only [exC, exOps, exOp, wantedE, ↓reduceIte, ROp.run, evsE, evE, ty, Nat.reduceEqDiff, same, loadA, rowA, List.getElem?_cons_zero, ↓pickQ, Option.map_some, putE, faddrA, List.getElem?_cons_succ, ↓hj0, List.append_nil, frzL, frz_agg, queL_frz, tz, k2, Cls.isFree, callCls, nidL, queL_nid, allocA, List.length_cons, List.length_nil, Nat.reduceAdd, List.cons_append, List.nil_append, storeA_eq, Que.c_len, Nat.reduceLeDiff, dec_true, over, List.take_zero, List.drop_succ_cons, List.drop_nil, List.set_cons_succ, List.set_cons_zero]; rfl) ?_)
      generalize q.send j.txn = r at *
      refine vcE.seq (vcE.forks (fun tm hp => tm 5 = .int .i64 r.2 ∧ tm 6 = .int .i64 0 ∧ tm 7 = .int .i64 j.txn ∧ tm 4 = .ptr 2 0 ∧ hp[2]? = some (some (.row 29 r.1.c)) ∧ tm 8 = .nils) ?_ ?_)
      · repeat' (first | with_reducible exact exTs_nil | with_reducible refine exT_fork ?_ | (with_reducible show exT _ _ _ (Tr.take _ _) _ _ _; refine exT_take rfl (by simp (disch := first | assumption | omega | with_unfolding_all rfl) only [exOp, wantedE, ↓reduceIte, ROp.run, evsE, evE, ty, Nat.reduceEqDiff, same, loadA, rowA, List.getElem?_cons_succ, List.getElem?_cons_zero, ↓pickQ, Option.map_some, putE, faddrA, storeA_eq, tz, Que.c_len, List.length_cons, List.length_nil, Nat.reduceAdd, Nat.reduceLeDiff, dec_true, over, List.take_zero, List.nil_append, List.drop_succ_cons, List.drop_nil, List.append_nil, List.set_cons_succ, List.set_cons_zero, ↓hj0]; rfl) ?_) | (with_reducible show exTs _ _ _ (_ :: _) _ _ _; refine exTs_cons rfl (by simp (disch := first | assumption | omega | with_unfolding_all rfl) only [exOp, wantedE, ↓reduceIte, ROp.run, evsE, evE, ty, same, loadA, rowA, List.getElem?_cons_succ, List.getElem?_cons_zero, ↓hj0, Option.map_some, putE, Nat.reduceEqDiff, storeA_eq, tz, Que.c_len, List.length_cons, List.length_nil, Nat.reduceAdd, Nat.reduceLeDiff, dec_true, over, List.take_zero, List.nil_append, List.drop_succ_cons, List.drop_nil, List.append_nil, List.set_cons_succ, List.set_cons_zero]; rfl) ?_ ?_))
        all_goals (with_reducible refine exT_done ?_)
        all_goals refine ⟨?_, ?_, ?_, ?_, ?_, ?_⟩
        all_goals (try simp only [upd_app, Nat.reduceEqDiff, ↓reduceIte])
        all_goals rfl
      · rintro tm hp ⟨e5, e6, e7, e4, eh, e8⟩
        refine vcE.ex (by simp (disch := first | assumption | omega | with_unfolding_all rfl) only [exC]; rfl) ?_
        refine .inl ⟨rfl, ?_, e4, ?_, ?_⟩
        · rw [doV, hd, e5, e6, e7]
        · rw [hd]
          exact eh
        · rw [hd, e8]
          rfl
    · have hd : doQ q c = ((q.send c.txn).1, (q.send c.txn).2, 0, 0, []) := by simp [doQ, hm]
      have k1 : TR3 78 [.agg q.c, .int .i64 c.txn] = _ := TR3_send (n := c.txn) hq.fits
      refine vcE.ex (by simp (disch := first | assumption | omega | with_unfolding_all rfl) only [exC, exOps, exOp, wantedE, ↓reduceIte, ROp.run, evsE, evE, ty, same, binA, intA, dec_false, Option.map_some, putE, Nat.reduceEqDiff, dec_true, loadA, rowA, List.getElem?_cons_zero, ↓pickQ, faddrA, List.getElem?_cons_succ, ↓hc6, List.append_nil, frzL, frz_agg, queL_frz, tz, k1, Cls.isFree, callCls, nidL, queL_nid, allocA, List.length_cons, List.length_nil, Nat.reduceAdd, List.cons_append, List.nil_append, storeA_eq, Que.c_len, Nat.reduceLeDiff, over, List.take_zero, List.drop_succ_cons, List.drop_nil, List.set_cons_succ, List.set_cons_zero]; rfl) ?_
      refine .inl ⟨rfl, ?_, ?_, ?_, ?_⟩
      · rw [doV, hd]
        rfl
      · simp only [upd_app, Nat.reduceEqDiff, ↓reduceIte]
      · rw [hd]
        rfl
      · rw [hd]
        simp only [upd_app, Nat.reduceEqDiff, ↓reduceIte]
        rfl
    · have hd : doQ q c = ((q.reply c.txn c.ok).1, (q.reply c.txn c.ok).2.2, (q.reply c.txn c.ok).2.1, 0, []) := by simp [doQ, hm]
      have k1 : TR3 79 [.agg q.c, .int .i64 c.txn, .bool c.ok] = _ := TR3_reply (n := c.txn) (b := c.ok) hq
      refine vcE.ex (by simp (disch := first | assumption | omega | with_unfolding_all rfl) only [exC, exOps, exOp, wantedE, ↓reduceIte, ROp.run, evsE, evE, ty, same, binA, intA, dec_false, Option.map_some, putE, Nat.reduceEqDiff, dec_true, loadA, rowA, List.getElem?_cons_zero, ↓pickQ, faddrA, List.getElem?_cons_succ, ↓hc6, ↓hc8, List.append_nil, frzL, frz_agg, queL_frz, tz, k1, Cls.isFree, callCls, nidL, queL_nid, allocA, List.length_cons, List.length_nil, Nat.reduceAdd, List.cons_append, List.nil_append, storeA_eq, Que.c_len, Nat.reduceLeDiff, over, List.take_zero, List.drop_succ_cons, List.drop_nil, List.set_cons_succ, List.set_cons_zero]; rfl) ?_
      refine .inl ⟨rfl, ?_, ?_, ?_, ?_⟩
      · rw [doV, hd]
        rfl
      · simp only [upd_app, Nat.reduceEqDiff, ↓reduceIte]
      · rw [hd]
        rfl
      · rw [hd]
        simp only [upd_app, Nat.reduceEqDiff, ↓reduceIte]
        rfl
    · have hd : doQ q c = ((q.pass c.n).1, (q.pass c.n).2, 0, 0, []) := by simp [doQ, hm]
      have k1 : TR3 80 [.agg q.c, .int .i64 c.n] = _ := TR3_pass (n := c.n) hq
      refine vcE.ex (by simp (disch := first | assumption | omega | with_unfolding_all rfl) only [exC, exOps, exOp, wantedE, ↓reduceIte, ROp.run, evsE, evE, ty, same, binA, intA, dec_false, Option.map_some, putE, Nat.reduceEqDiff, dec_true, loadA, rowA, List.getElem?_cons_zero, ↓pickQ, faddrA, List.getElem?_cons_succ, ↓hc7, List.append_nil, frzL, frz_agg, queL_frz, tz, k1, Cls.isFree, callCls, nidL, queL_nid, allocA, List.length_cons, List.length_nil, Nat.reduceAdd, List.cons_append, List.nil_append, storeA_eq, Que.c_len, Nat.reduceLeDiff, over, List.take_zero, List.drop_succ_cons, List.drop_nil, List.set_cons_succ, List.set_cons_zero]; rfl) ?_
      refine .inl ⟨rfl, ?_, ?_, ?_, ?_⟩
      · rw [doV, hd]
        rfl
      · simp only [upd_app, Nat.reduceEqDiff, ↓reduceIte]
      · rw [hd]
        rfl
      · rw [hd]
        simp only [upd_app, Nat.reduceEqDiff, ↓reduceIte]
        rfl
    · have hd : doQ q c = ((q.withdraw c.keep).1, 0, 0, 0, (q.withdraw c.keep).2) := by simp [doQ, hm]
      have k2 := TR3_withdraw (q := q) (l := c.keep) ⟨hq.fits, hk⟩
      generalize q.withdraw c.keep = r at *
      refine vcE.ex (by simp (disch := first | assumption | omega | with_unfolding_all rfl) only [exC, exOps, exOp, wantedE, ↓reduceIte, ROp.run, evsE, evE, ty, same, binA, intA, dec_false, Option.map_some, putE, Nat.reduceEqDiff, dec_true, loadA, rowA, List.getElem?_cons_zero, ↓pickQ, faddrA, List.getElem?_cons_succ, ↓hc9, List.append_nil, frzL, frz_agg, queL_frz, k2, Cls.isFree, callCls, nidL, tz, queL_nid, allocA, List.length_cons, List.length_nil, Nat.reduceAdd, List.cons_append, List.nil_append, storeA_eq, Que.c_len, Nat.reduceLeDiff, over, List.take_zero, List.drop_succ_cons, List.drop_nil, List.set_cons_succ, List.set_cons_zero]; rfl) ?_
      refine .inl ⟨rfl, ?_, ?_, ?_, ?_⟩
      · rw [doV, hd]
        rfl
      · simp only [upd_app, Nat.reduceEqDiff, ↓reduceIte]
      · rw [hd]
        rfl
      · rw [hd]
        simp only [upd_app, Nat.reduceEqDiff, ↓reduceIte, Enc.S_frz]
    · have hd : doQ q c = (q.land, 0, 0, 0, []) := by simp [doQ, hm]
      have k1 : TR3 82 [.agg q.c] = _ := TR3_land hq.fits
      refine vcE.ex (by simp (disch := first | assumption | omega | with_unfolding_all rfl) only [exC, exOps, exOp, wantedE, ↓reduceIte, ROp.run, evsE, evE, ty, same, binA, intA, dec_false, Option.map_some, putE, Nat.reduceEqDiff, dec_true, loadA, rowA, List.getElem?_cons_zero, ↓pickQ, List.append_nil, frzL, frz_agg, queL_frz, k1, Cls.isFree, callCls, nidL, tz, queL_nid, storeA_eq, List.getElem?_cons_succ, Que.c_len, List.length_cons, List.length_nil, Nat.reduceAdd, Nat.reduceLeDiff, over, List.take_zero, List.nil_append, List.drop_succ_cons, List.drop_nil, List.set_cons_succ, List.set_cons_zero]; rfl) ?_
      refine .inl ⟨rfl, ?_, ?_, ?_, ?_⟩
      · rw [doV, hd]
        rfl
      · simp only [upd_app, Nat.reduceEqDiff, ↓reduceIte]
      · rw [hd]
        rfl
      · rw [hd]
        simp only [upd_app, Nat.reduceEqDiff, ↓reduceIte]
        rfl
    · refine vcE.ex (by simp (disch := first | assumption | omega | with_unfolding_all rfl) only [exC, exOps, exOp, wantedE, ↓reduceIte, ROp.run, evsE, evE, ty, same, binA, intA, dec_false, Option.map_some, putE, Nat.reduceEqDiff]; rfl) ?_
      refine .inr ⟨rfl, rfl, ?_, ?_, rfl⟩
      all_goals simp only [upd_app, Nat.reduceEqDiff, ↓reduceIte]
  · rintro e tm hp (⟨rfl, hd⟩ | ⟨rfl, hm, e2, e4, rfl⟩)
    · exact fin hd
    · have hd : doQ q c = (q.clear, 0, 0, 0, []) := by simp [doQ, hm]
      have k1 : TR3 83 [.agg q.c] = _ := TR3_clear hq.fits
      refine vcE.ex (by simp (disch := first | assumption | omega | with_unfolding_all rfl) only [exC, exOps, exOp, wantedE, ↓reduceIte, ROp.run, evsE, evE, e2, same, loadA, rowA, List.getElem?_cons_zero, ↓pickQ, Option.map_some, putE, ty, List.append_nil, frzL, frz_agg, queL_frz, k1, Cls.isFree, callCls, nidL, tz, queL_nid, Nat.reduceEqDiff, e4, storeA_eq, List.getElem?_cons_succ, Que.c_len, List.length_cons, List.length_nil, Nat.reduceAdd, Nat.reduceLeDiff, dec_true, over, List.take_zero, List.nil_append, List.drop_succ_cons, List.drop_nil, List.set_cons_succ, List.set_cons_zero]; rfl) ?_
      refine fin ⟨?_, ?_, ?_, ?_⟩
      · rw [doV, hd]
        rfl
      · simp only [upd_app, Nat.reduceEqDiff, ↓reduceIte, e4]
      · rw [hd]
        rfl
      · rw [hd]
        simp only [upd_app, Nat.reduceEqDiff, ↓reduceIte]
        rfl
end
section
open Go Go.Proofs

def TR4 : Tab := TR3.addO 33 (.cons .que (.cons (.agg encC) .nil)) fun p => if OkQ p.1 ∧ p.2.1.keep.length ≤ most then some (.rd false (doV p.1 p.2.1)) else none
theorem TR4_ok : TabOk Try.prog TR4 := by
  refine TabOk.addO TR3_ok ?_
  intro p r h
  split at h
  · rename_i hv; cases h; exact rDoes p.1 hv.1 p.2.1 hv.2
  · cases h
theorem TR4_does {q : Que} (h : OkQ q) {c : Call} (h2 : c.keep.length ≤ most) : TR4 33 [.agg q.c, .agg c.c] = some (.rd false (doV q c)) :=
  (Tab.addO_self _ _ (.cons .que (.cons (.agg encC) .nil)) _ (q, c, ())).trans (if_pos ⟨h, h2⟩)
theorem TR4_ne {g : FuncId} {xs : List AV} (h : Nat.beq g 33 = false) : TR4 g xs = TR3 g xs := Tab.addO_ne _ _ _ _ h _
theorem Job.c_cells (j : Job) : cellsA (.agg j.c) = j.c := rfl
theorem encC_txn {l : List Call} {i : Nat} {x : Call} (h : l[i]? = some x) : pickA none (encC.cs l) (i * 10 + 6) = some (.int .i64 x.txn) := by
  have := encC.pick_part h (sh := none) (o := 6) (by show 6 + 1 ≤ 10; omega)
  rw [show encC.sz = 10 from rfl] at this
  rw [this]
  rfl
theorem job_neq (x y : Job) : binA .neq (.st [.int, .int, .str, .str, .str, .str, .bool, .bool, .int, .int]) (.agg x.c) (.agg y.c) = some (.bool (!decide (x = y))) := elJ.ne x y

theorem upd_20 {e : Env} {i k : Nat} {v : AV} (hk : k < 20) (hi : Nat.ble 20 i = true) : upd e i v k = e k := by
  have := Nat.le_of_ble_eq_true hi
  rw [upd_app, if_neg (by omega)]
section
variable {c : Call} {hp0 : HP} {q : Que} {l : List Call} {barred : List Int} {tm : Env} {hp : HP}
/-- What is known at the beginning of a round. -/
structure ScI (q : Que) (l : List Call) (barred : List Int) (i : Nat) (tm : Env) (hp : HP) : Prop where
  g0 : hp[0]? = some (some (.row 29 q.c))
  t1 : tm 1 = encC.S l
  t2 : tm 2 = encI.S barred
  t4 : tm 4 = .ptr 0 0
  t9 : tm 9 = .int .i64 i
/-- Behind the two calls. -/
structure ScK (q : Que) (c : Call) (l : List Call) (barred : List Int) (i : Nat) (hp0 : HP) (tm : Env) (hp : HP) : Prop where
  t1 : tm 1 = encC.S l
  t2 : tm 2 = encI.S barred
  t4 : tm 4 = .ptr 0 0
  t9 : tm 9 = .int .i64 i
  t10 : tm 10 = .ptr hp0.length 0
  t11 : tm 11 = .int .i64 (doQ q c).2.1
  t12 : tm 12 = .int .i64 (doQ q c).2.2.1
  t13 : tm 13 = .int .i64 (doQ q c).2.2.2.1
  t14 : tm 14 = encJ.S (doQ q c).2.2.2.2
  t15 : tm 15 = .ptr (hp0.length + 1) 0
  t16 : tm 16 = .int .i64 (doQ q c).2.1
  t17 : tm 17 = .int .i64 (doQ q c).2.2.1
  t18 : tm 18 = .int .i64 (doQ q c).2.2.2.1
  t19 : tm 19 = encJ.S (doQ q c).2.2.2.2
  h : hp = hp0 ++ [some (.row 29 (doQ q c).1.c), some (.row 29 (doQ q c).1.c)]

set_option maxHeartbeats 4000000 in
theorem sc_calls {hint : Nat → Nat} (v : Valid q) {i : Nat} {c : Call} (hc : l[i]? = some c) (hl : l.length ≤ 4611686018427387904) (hk : c.keep.length ≤ most) (h : ScI q l barred i tm hp) {ic : IC} {Q : Exit → Env → HP → Prop} {t11 t12 : Tr}
    (e11 : t11 = (.take 0 (.take 2 (.take 3 (.take 4 (.fork [(1, .take 5 (.fork [(6, .take 7 (.take 8 (.take 9 (.take 10 (.take 11 (.take 12 (.take 13 (.take 14 (.take 15 (.take 16 (.take 17 (.take 18 (.done))))))))))))), (13, .take 6 (.take 7 (.take 8 (.take 9 (.take 10 (.take 11 (.take 12 (.take 14 (.take 15 (.take 16 (.take 17 (.take 18 (.done)))))))))))))])), (5, .fork [(1, .fork [(6, .take 7 (.take 8 (.take 9 (.take 10 (.take 11 (.take 12 (.take 13 (.take 14 (.take 15 (.take 16 (.take 17 (.take 18 (.done))))))))))))), (13, .take 6 (.take 7 (.take 8 (.take 9 (.take 10 (.take 11 (.take 12 (.take 14 (.take 15 (.take 16 (.take 17 (.take 18 (.done)))))))))))))]), (13, .take 1 (.take 6 (.take 7 (.take 8 (.take 9 (.take 10 (.take 11 (.take 12 (.take 14 (.take 15 (.take 16 (.take 17 (.take 18 (.done))))))))))))))]), (13, .fork [(1, .take 5 (.take 6 (.take 7 (.take 8 (.take 9 (.take 10 (.take 11 (.take 12 (.take 14 (.take 15 (.take 16 (.take 17 (.take 18 (.done)))))))))))))), (5, .take 1 (.take 6 (.take 7 (.take 8 (.take 9 (.take 10 (.take 11 (.take 12 (.take 14 (.take 15 (.take 16 (.take 17 (.take 18 (.done))))))))))))))])]))))))
    (e12 : t12 = (.take 0 (.take 1 (.take 2 (.take 3 (.take 4 (.fork [(5, .take 6 (.take 7 (.take 8 (.take 9 (.take 10 (.take 11 (.take 12 (.take 13 (.take 14 (.take 15 (.take 16 (.take 17 (.done))))))))))))), (12, .take 5 (.take 6 (.take 7 (.take 8 (.take 9 (.take 10 (.take 11 (.take 13 (.take 14 (.take 15 (.take 16 (.take 17 (.done)))))))))))))])))))))
    (k : ∀ tm' hp', ScK q c l barred i hp tm' hp' → vcE Try.prog hint TR4 208 ic tm' hp' Q) :
    vcE Try.prog hint TR4 208 (IC.seq (IC.regD .wild r6_11 t11) (IC.seq (IC.regD .wild r6_12 t12) ic)) tm hp Q := by
  obtain ⟨g0, t1, t2, t4, t9⟩ := h
  have hi := (List.getElem?_eq_some_iff.1 hc).1
  have hcl : True := trivial
  have hlt : 0 < hp.length := get_lt g0
  have g0a : ∀ l, (hp ++ l)[0]? = some (some (.row 29 q.c)) := fun l => app_get g0
  have hia : iaddrA 10 (encC.S l) (.int .i64 i) = some (.fptr (encC.cs l) (i * 10)) := encC.S_iaddr hi
  have hpc : pickA (some 10) (encC.cs l) (i * 10) = some (.agg c.c) := encC.pick hc
  have c1 : TR4 23 [.agg q.c] = _ := (TR4_ne rfl).trans ((TR3_ne rfl).trans (T10_own v.ok.fits))
  have c2 : TR4 22 [.agg q.c, .agg c.c] = _ := (TR4_ne rfl).trans ((TR3_ne rfl).trans (T10_do v.ok hk))
  have c3 := TR4_does v.ok hk
  unfold doV at c2 c3
  generalize hd : doQ q c = r at *
  obtain ⟨p, e, w, n, gone⟩ := r
  simp only at *
  subst e11
  subst e12
  refine vcE.seq (vcE.forks (fun tm' hp' => tm' 1 = encC.S l ∧ tm' 2 = encI.S barred ∧ tm' 4 = .ptr 0 0 ∧ tm' 9 = .int .i64 i ∧ tm' 10 = .ptr hp.length 0 ∧ tm' 11 = .int .i64 e ∧ tm' 12 = .int .i64 w ∧ tm' 13 = .int .i64 n ∧ tm' 14 = encJ.S gone ∧ hp' = hp ++ [some (.row 29 p.c)]) ?_ ?_)
  · repeat' (first | with_reducible exact exTs_nil | with_reducible refine exT_fork ?_ | (with_reducible show exT _ _ _ (Tr.take _ _) _ _ _; refine exT_take rfl (by simp (disch := first | assumption | omega | with_unfolding_all rfl) only [exOp, wantedE, ↓reduceIte, ROp.run, evsE, evE, t4, same, loadA, rowA, g0, ↓pickQ, Option.map_some, putE, ty, Nat.reduceEqDiff, t1, t9, hia, ↓hpc, List.getElem?_cons_zero, List.getElem?_cons_succ, allocA, storeA_eq, getA0, tz, Que.c_len, List.length_cons, List.length_nil, Nat.reduceAdd, Nat.reduceLeDiff, dec_true, over, List.take_zero, List.nil_append, List.drop_succ_cons, List.drop_nil, List.append_nil, setA0, List.set_cons_zero, frzL, frz_agg, queL_frz, callL_frz, c2, Cls.isFree, callCls, nidL, queL_nid, callL_nid, c1]; rfl) ?_) | (with_reducible show exTs _ _ _ (_ :: _) _ _ _; refine exTs_cons rfl (by simp (disch := first | assumption | omega | with_unfolding_all rfl) only [exOp, wantedE, ↓reduceIte, evsE, evE, ty, Nat.reduceEqDiff, List.append_nil, frzL, frz_agg, queL_frz, c1, Cls.isFree, callCls, nidL, tz, queL_nid, putE, callL_frz, c2, callL_nid, ROp.run, allocA, same, loadA, rowA, ↓hpc, Option.map_some]; rfl) ?_ ?_))
    all_goals (with_reducible refine exT_done ?_)
    all_goals refine ⟨?_, ?_, ?_, ?_, ?_, ?_, ?_, ?_, ?_, ?_⟩
    all_goals simp only [upd_app, Nat.reduceEqDiff, ↓reduceIte, t1, t2, t4, t9]
  clear t1 t2 t4 t9
  rintro tm1 hp1 ⟨t1, t2, t4, t9, t10, t11, t12, t13, t14, rfl⟩
  refine vcE.seq (vcE.forks (fun tm' hp' => ScK q c l barred i hp tm' hp') ?_ ?_)
  · repeat' (first | with_reducible exact exTs_nil | with_reducible refine exT_fork ?_ | (with_reducible show exT _ _ _ (Tr.take _ _) _ _ _; refine exT_take rfl (by simp (disch := first | assumption | omega | with_unfolding_all rfl) only [exOp, wantedE, ↓reduceIte, ROp.run, evsE, evE, t4, same, loadA, rowA, g0a, ↓pickQ, Option.map_some, putE, ty, Nat.reduceEqDiff, t1, t9, hia, ↓hpc, List.getElem?_cons_zero, List.getElem?_cons_succ, allocA, List.length_append, List.length_cons, List.length_nil, List.append_assoc, List.cons_append, List.nil_append, storeA_eq, getA, tz, Que.c_len, Nat.reduceAdd, Nat.reduceLeDiff, dec_true, over, List.take_zero, List.drop_succ_cons, List.drop_nil, List.append_nil, setA, List.set_cons_succ, List.set_cons_zero, frzL, frz_agg, queL_frz, callL_frz, c3, Cls.isFree, callCls, nidL, queL_nid, callL_nid]; rfl) ?_) | (with_reducible show exTs _ _ _ (_ :: _) _ _ _; refine exTs_cons rfl (by simp (disch := first | assumption | omega | with_unfolding_all rfl) only [exOp, wantedE, ↓reduceIte, evsE, evE, ty, Nat.reduceEqDiff, List.append_nil, frzL, frz_agg, queL_frz, callL_frz, c3, Cls.isFree, callCls, nidL, tz, queL_nid, callL_nid, putE, ROp.run, allocA, List.length_append, List.length_cons, List.length_nil, List.append_assoc, List.cons_append, List.nil_append]; rfl) ?_ ?_))
    all_goals (with_reducible refine exT_done ?_)
    all_goals refine ⟨?_, ?_, ?_, ?_, ?_, ?_, ?_, ?_, ?_, ?_, ?_, ?_, ?_, ?_, ?_⟩
    all_goals simp only [upd_app, Nat.reduceEqDiff, ↓reduceIte, t1, t2, t4, t9, t10, t11, t12, t13, t14, hd]
  · intro tm' hp' h
    exact k tm' hp' h

/-- Behind the four questions. -/
structure ScL (q : Que) (c : Call) (l : List Call) (barred : List Int) (i : Nat) (hp0 : HP) (tm : Env) (hp : HP) : Prop where
  t1 : tm 1 = encC.S l
  t4 : tm 4 = .ptr 0 0
  t9 : tm 9 = .int .i64 i
  t10 : tm 10 = .ptr hp0.length 0
  t11 : tm 11 = .int .i64 (doQ q c).2.1
  t12 : tm 12 = .int .i64 (doQ q c).2.2.1
  t13 : tm 13 = .int .i64 (doQ q c).2.2.2.1
  t14 : tm 14 = encJ.S (doQ q c).2.2.2.2
  t15 : tm 15 = .ptr (hp0.length + 1) 0
  t16 : tm 16 = .int .i64 (doQ q c).2.1
  t17 : tm 17 = .int .i64 (doQ q c).2.2.1
  t18 : tm 18 = .int .i64 (doQ q c).2.2.2.1
  t19 : tm 19 = encJ.S (doQ q c).2.2.2.2
  t20 : tm 20 = .ptr (hp0.length + 2) 0
  t21 : tm 21 = .bool ((doQ q c).1.nxt barred).2
  t22 : tm 22 = .ptr (hp0.length + 3) 0
  t23 : tm 23 = .bool ((doQ q c).1.nxt barred).2
  t24 : tm 24 = .ptr (hp0.length + 4) 0
  t25 : tm 25 = .bool ((doQ q c).1.find c.txn).2
  t26 : tm 26 = .ptr (hp0.length + 5) 0
  t27 : tm 27 = .bool ((doQ q c).1.find c.txn).2
  t2 : tm 2 = encI.S barred
  h : hp = hp0 ++ [some (.row 29 (doQ q c).1.c), some (.row 29 (doQ q c).1.c), some (.row 42 ((doQ q c).1.nxt barred).1.c), some (.row 42 ((doQ q c).1.nxt barred).1.c), some (.row 42 ((doQ q c).1.find c.txn).1.c), some (.row 42 ((doQ q c).1.find c.txn).1.c)]

set_option maxHeartbeats 4000000 in
theorem sc_asks {hint : Nat → Nat} (v : Valid (doQ q c).1) (hb : barred.length ≤ most) {i : Nat} (hc : l[i]? = some c) (hl : l.length ≤ 4611686018427387904) (h : ScK q c l barred i hp0 tm hp) {ic : IC} {Q : Exit → Env → HP → Prop} {t15 t16 : Tr}
    (e15 : t15 = (.take 0 (.take 1 (.take 2 (.take 3 (.take 4 (.take 5 (.fork [(6, .take 7 (.take 8 (.take 9 (.take 10 (.take 11 (.take 12 (.done))))))), (10, .take 6 (.take 7 (.take 8 (.take 9 (.take 11 (.take 12 (.done)))))))]))))))))
    (e16 : t16 = (.take 0 (.take 1 (.take 2 (.take 3 (.take 4 (.take 5 (.fork [(6, .take 7 (.take 8 (.take 9 (.take 10 (.take 11 (.take 12 (.done))))))), (10, .take 6 (.take 7 (.take 8 (.take 9 (.take 11 (.take 12 (.done)))))))]))))))))
    (k : ∀ tm' hp', ScL q c l barred i hp0 tm' hp' → vcE Try.prog hint TR4 208 ic tm' hp' Q) :
    vcE Try.prog hint TR4 208 (IC.seq (IC.reg r6_13) (IC.seq (IC.reg r6_14) (IC.seq (IC.regD .wild r6_15 t15) (IC.seq (IC.regD .wild r6_16 t16) ic)))) tm hp Q := by
  obtain ⟨t1, t2, t4, t9, t10, t11, t12, t13, t14, t15, t16, t17, t18, t19, rfl⟩ := h
  have hi := (List.getElem?_eq_some_iff.1 hc).1
  have hcl : True := trivial
  have hia : iaddrA 10 (encC.S l) (.int .i64 i) = some (.fptr (encC.cs l) (i * 10)) := encC.S_iaddr hi
  have hpx := encC_txn hc
  have c1 : TR4 20 [.agg (doQ q c).1.c, encI.S barred] = _ := (TR4_ne rfl).trans (TR3_pnext ⟨v.ok.fits, hb⟩)
  have c2 : TR4 34 [.agg (doQ q c).1.c, encI.S barred] = _ := (TR4_ne rfl).trans (TR3_next ⟨v.ok.fits, hb⟩)
  have c3 : TR4 35 [.agg (doQ q c).1.c, .int .i64 c.txn] = _ := (TR4_ne rfl).trans (TR3_pfind v.ok.fits)
  have c4 : TR4 36 [.agg (doQ q c).1.c, .int .i64 c.txn] = _ := (TR4_ne rfl).trans (TR3_find v.ok.fits)
  have out : ∀ {tm' : Env} {hp' : HP}, ScL q c l barred i hp0 tm' hp' → vcE Try.prog hint TR4 208 ic tm' hp' Q := fun h => k _ _ h
  generalize hd : doQ q c = r at *
  obtain ⟨p, e, w, n, gone⟩ := r
  simp only at *
  generalize hn : p.nxt barred = nx at *
  generalize hf : p.find c.txn = fd at *
  obtain ⟨nj, nb⟩ := nx
  obtain ⟨fj, fb⟩ := fd
  simp only at *
  subst e15
  subst e16
  refine vcE.step (by simp (disch := first | assumption | omega | with_unfolding_all rfl) only [exC, exOps, exOp, wantedE, ↓reduceIte, ROp.run, evsE, evE, t15, same, loadA, rowA, getA, List.getElem?_cons_succ, List.getElem?_cons_zero, ↓pickQ, Option.map_some, putE, ty, Nat.reduceEqDiff, t2, List.append_nil, frzL, frz_agg, queL_frz, c1, Cls.isFree, callCls, nidL, tz, queL_nid, allocA, List.length_append, List.length_cons, List.length_nil, Nat.reduceAdd, List.append_assoc, List.cons_append, List.nil_append, storeA_eq, Job.c_len, Nat.reduceLeDiff, dec_true, over, List.take_zero, List.drop_succ_cons, List.drop_nil, setA, List.set_cons_succ, List.set_cons_zero]; rfl) ?_
  refine vcE.step (by simp (disch := first | assumption | omega | with_unfolding_all rfl) only [exC, exOps, exOp, wantedE, ↓reduceIte, ROp.run, evsE, evE, ty, Nat.reduceEqDiff, t15, same, loadA, rowA, getA, List.getElem?_cons_succ, List.getElem?_cons_zero, ↓pickQ, Option.map_some, putE, t2, List.append_nil, frzL, frz_agg, queL_frz, c2, Cls.isFree, callCls, nidL, tz, queL_nid, allocA, List.length_append, List.length_cons, List.length_nil, Nat.reduceAdd, List.append_assoc, List.cons_append, List.nil_append, storeA_eq, Job.c_len, Nat.reduceLeDiff, dec_true, over, List.take_zero, List.drop_succ_cons, List.drop_nil, setA, List.set_cons_succ, List.set_cons_zero]; rfl) ?_
  refine vcE.seq (vcE.forks (fun tm' hp' => (∀ k, k < 20 → tm' k = tm k) ∧ tm' 20 = .ptr (hp0.length + 2) 0 ∧ tm' 21 = .bool nb ∧ tm' 22 = .ptr (hp0.length + 3) 0 ∧ tm' 23 = .bool nb ∧ tm' 24 = .ptr (hp0.length + 4) 0 ∧ tm' 25 = .bool fb ∧ hp' = hp0 ++ [some (.row 29 p.c), some (.row 29 p.c), some (.row 42 nj.c), some (.row 42 nj.c), some (.row 42 fj.c)]) ?_ ?_)
  · repeat' (first | with_reducible exact exTs_nil | with_reducible refine exT_fork ?_ | (with_reducible show exT _ _ _ (Tr.take _ _) _ _ _; refine exT_take rfl (by simp (disch := first | assumption | omega | with_unfolding_all rfl) only [exOp, wantedE, ↓reduceIte, ROp.run, evsE, evE, ty, Nat.reduceEqDiff, t15, same, loadA, rowA, getA, List.getElem?_cons_succ, List.getElem?_cons_zero, ↓pickQ, Option.map_some, putE, t1, t9, hia, faddrA, ↓hpx, allocA, List.length_append, List.length_cons, List.length_nil, Nat.reduceAdd, List.append_assoc, List.cons_append, List.nil_append, storeA_eq, tz, Job.c_len, Nat.reduceLeDiff, dec_true, over, List.take_zero, List.drop_succ_cons, List.drop_nil, List.append_nil, setA, List.set_cons_succ, List.set_cons_zero, frzL, frz_agg, queL_frz, c3, Cls.isFree, callCls, nidL, queL_nid]; rfl) ?_) | (with_reducible show exTs _ _ _ (_ :: _) _ _ _; refine exTs_cons rfl (by simp (disch := first | assumption | omega | with_unfolding_all rfl) only [exOp, wantedE, ↓reduceIte, evsE, evE, ty, Nat.reduceEqDiff, List.append_nil, frzL, frz_agg, queL_frz, tz, c3, Cls.isFree, callCls, nidL, queL_nid, putE, ROp.run, allocA, List.length_append, List.length_cons, List.length_nil, Nat.reduceAdd, List.append_assoc, List.cons_append, List.nil_append]; rfl) ?_ ?_))
    all_goals (with_reducible refine exT_done ?_)
    all_goals refine ⟨fun k hk => ?_, ?_, ?_, ?_, ?_, ?_, ?_, ?_⟩
    all_goals first | (simp (disch := first | assumption | decide) only [upd_20]; done) | simp only [upd_app, Nat.reduceEqDiff, ↓reduceIte]
  rintro tm1 hp1 ⟨ho, t20, t21, t22, t23, t24, t25, rfl⟩
  have m1 := (ho 1 (by omega)).trans t1
  have m9 := (ho 9 (by omega)).trans t9
  have m15 := (ho 15 (by omega)).trans t15
  refine vcE.seq (vcE.forks (fun tm' hp' => ScL q c l barred i hp0 tm' hp') ?_ ?_)
  · repeat' (first | with_reducible exact exTs_nil | with_reducible refine exT_fork ?_ | (with_reducible show exT _ _ _ (Tr.take _ _) _ _ _; refine exT_take rfl (by simp (disch := first | assumption | omega | with_unfolding_all rfl) only [exOp, wantedE, ↓reduceIte, ROp.run, evsE, evE, m15, same, loadA, rowA, getA, List.getElem?_cons_succ, List.getElem?_cons_zero, ↓pickQ, Option.map_some, putE, ty, Nat.reduceEqDiff, m1, m9, hia, faddrA, ↓hpx, allocA, List.length_append, List.length_cons, List.length_nil, Nat.reduceAdd, List.append_assoc, List.cons_append, List.nil_append, storeA_eq, tz, Job.c_len, Nat.reduceLeDiff, dec_true, over, List.take_zero, List.drop_succ_cons, List.drop_nil, List.append_nil, setA, List.set_cons_succ, List.set_cons_zero, frzL, frz_agg, queL_frz, c4, Cls.isFree, callCls, nidL, queL_nid]; rfl) ?_) | (with_reducible show exTs _ _ _ (_ :: _) _ _ _; refine exTs_cons rfl (by simp (disch := first | assumption | omega | with_unfolding_all rfl) only [exOp, wantedE, ↓reduceIte, evsE, evE, ty, Nat.reduceEqDiff, List.append_nil, frzL, frz_agg, queL_frz, tz, c4, Cls.isFree, callCls, nidL, queL_nid, putE, ROp.run, allocA, List.length_append, List.length_cons, List.length_nil, Nat.reduceAdd, List.append_assoc, List.cons_append, List.nil_append]; rfl) ?_ ?_))
    all_goals (with_reducible refine exT_done ?_)
    all_goals refine ⟨?_, ?_, ?_, ?_, ?_, ?_, ?_, ?_, ?_, ?_, ?_, ?_, ?_, ?_, ?_, ?_, ?_, ?_, ?_, ?_, ?_, ?_, ?_⟩
    all_goals simp only [upd_app, Nat.reduceEqDiff, ↓reduceIte, ho 1 (by omega), t1, ho 4 (by omega), t4, ho 9 (by omega), t9, ho 10 (by omega), t10, ho 11 (by omega), t11, hd, ho 12 (by omega), t12, ho 13 (by omega), t13, ho 14 (by omega), t14, ho 15 (by omega), t15, ho 16 (by omega), t16, ho 17 (by omega), t17, ho 18 (by omega), t18, ho 19 (by omega), t19, t20, t21, hn, t22, t23, t24, t25, hf, ho 2 (by omega), t2]
  · intro tm' hp' h
    exact out h
theorem gone_le {q : Que} (v : Valid q) (c : Call) : (doQ q c).2.2.2.2.length ≤ most := by
  have hj := v.nj
  have h0 : ([] : List Job).length ≤ most := by simp
  have h1 : (q.withdraw c.keep).2.length ≤ most := Nat.le_trans (List.length_filter_le _ _) (by simp only [most]; omega)
  unfold doQ
  split <;> first | exact h0 | exact h1 | (split <;> first | exact h0 | exact h1 | (split <;> first | exact h0 | exact h1 | (split <;> first | exact h0 | exact h1 | (split <;> first | exact h0 | exact h1 | (split <;> first | exact h0 | exact h1 | (split <;> first | exact h0 | exact h1))))))

set_option maxHeartbeats 4000000 in
theorem sc_cmp {hint : Nat → Nat} (v0 : Valid q) (v : Valid (doQ q c).1) {i : Nat} (hc : l[i]? = some c) (hl : l.length ≤ 4611686018427387904) (g0 : hp0[0]? = some (some (.row 29 q.c))) (h : ScL q c l barred i hp0 tm hp) {ic : IC} {Q : Exit → Env → HP → Prop} {w : Cls} {t17 : Tr} (hw : w = .alloc)
    (e17 : t17 = (.take 0 (.take 1 (.take 2 (.take 3 (.take 4 (.take 5 (.take 6 (.take 7 (.take 8 (.take 9 (.take 10 (.take 11 (.take 12 (.take 13 (.take 14 (.take 15 (.take 16 (.take 17 (.take 18 (.take 19 (.take 20 (.take 21 (.take 22 (.take 23 (.take 24 (.take 25 (.take 26 (.take 27 (.take 28 (.take 29 (.take 30 (.take 31 (.take 32 (.take 33 (.take 34 (.take 35 (.take 36 (.take 37 (.take 38 (.take 39 (.take 40 (.take 41 (.take 42 (.take 43 (.take 44 (.take 45 (.take 46 (.take 47 (.take 49 (.take 50 (.take 48 (.take 51 (.take 52 (.take 53 (.take 54 (.take 55 (.take 56 (.take 57 (.take 58 (.take 59 (.take 60 (.take 61 (.take 62 (.take 63 (.take 65 (.take 66 (.take 67 (.take 68 (.take 69 (.take 70 (.take 71 (.take 72 (.take 73 (.take 64 (.take 74 (.take 75 (.take 76 (.done)))))))))))))))))))))))))))))))))))))))))))))))))))))))))))))))))))))))))))))))
    (k : ∀ tm', tm' 1 = encC.S l → tm' 2 = encI.S barred → tm' 4 = .ptr 0 0 → tm' 9 = .int .i64 i → tm' 15 = .ptr (hp0.length + 1) 0 → tm' 206 = .bool false → vcE Try.prog hint TR4 208 ic tm' hp Q) :
    vcE Try.prog hint TR4 208 (IC.seq (IC.regD w r6_17 t17) ic) tm hp Q := by
  obtain ⟨t1, t4, t9, t10, t11, t12, t13, t14, t15, t16, t17', t18, t19, t20, t21, t22, t23, t24, t25, t26, t27, t2, rfl⟩ := h
  have hi := (List.getElem?_eq_some_iff.1 hc).1
  have hcl : True := trivial
  have hlt : 0 < hp0.length := get_lt g0
  have g0a : ∀ l, (hp0 ++ l)[0]? = some (some (.row 29 q.c)) := fun l => app_get g0
  have hgl := gone_le v0 c
  obtain ⟨x, hx⟩ : ∃ x, l[0]? = some x := ⟨_, List.getElem?_eq_getElem (by omega)⟩
  have hia : iaddrA 10 (encC.S l) (.int .i64 i) = some (.fptr (encC.cs l) (i * 10)) := encC.S_iaddr hi
  have hia0 : iaddrA 10 (encC.S l) (.int .i64 0) = some (.fptr (encC.cs l) 0) := encC.S_iaddr (i := 0) (by omega)
  have hpa := encC_a hc
  have hpa0 : pickA (some 5) (encC.cs l) (0 + 1) = some (.agg x.a.c) := encC_a hx
  have c1 : TR4 37 [.agg (doQ q c).1.c, .agg (doQ q c).1.c] = _ := (TR4_ne rfl).trans (TR3_same v.ok.fits)
  have c2 : TR4 37 [.agg (doQ q c).1.c, .agg q.c] = _ := (TR4_ne rfl).trans (TR3_same v.ok.fits)
  have c3 : TR4 28 [.agg (doQ q c).1.c, .agg q.c] = _ := (TR4_ne rfl).trans ((TR3_ne rfl).trans ((T10_ne rfl).trans (T8_same v.ok.fits v0.ok.fits)))
  have c4 : TR4 38 [encJ.S (doQ q c).2.2.2.2, encJ.S (doQ q c).2.2.2.2] = _ := (TR4_ne rfl).trans (TR3_samej ⟨hgl, hgl⟩)
  have c5 : TR4 25 [.agg x.a.c, .agg c.a.c] = _ := (TR4_ne rfl).trans TR3_palike
  have c6 : TR4 39 [.agg x.a.c, .agg c.a.c] = _ := (TR4_ne rfl).trans TR3_alike
  have n1 : ∀ j : Job, binA .neq (.st [.int, .int, .str, .str, .str, .str, .bool, .bool, .int, .int]) (.agg j.c) (.agg j.c) = some (.bool false) := fun j => by
    rw [job_neq, decide_eq_true rfl]
    rfl
  have bn : ∀ b : Bool, (b != b) = false := fun b => by cases b <;> rfl
  have pj : ∀ j : Job, pickA (some 10) j.c 0 = some (.agg j.c) := fun _ => rfl
  rw [decide_eq_true rfl] at c1 c4
  generalize decide ((doQ q c).1 = q) = b1 at *
  generalize x.a.alike c.a = b2 at *
  subst e17
  subst hw
  refine vcE.seq (vcE.forks (fun tm' hp' => tm' 1 = encC.S l ∧ tm' 2 = encI.S barred ∧ tm' 4 = .ptr 0 0 ∧ tm' 9 = .int .i64 i ∧ tm' 15 = .ptr (hp0.length + 1) 0 ∧ tm' 206 = .bool false ∧ hp' = hp0 ++ [some (.row 29 (doQ q c).1.c), some (.row 29 (doQ q c).1.c), some (.row 42 ((doQ q c).1.nxt barred).1.c), some (.row 42 ((doQ q c).1.nxt barred).1.c), some (.row 42 ((doQ q c).1.find c.txn).1.c), some (.row 42 ((doQ q c).1.find c.txn).1.c)]) ?_ ?_)
  · repeat' (first | with_reducible exact exTs_nil | with_reducible refine exT_fork ?_ | (with_reducible show exT _ _ _ (Tr.take _ _) _ _ _; refine exT_take rfl (by simp (disch := first | assumption | omega | with_unfolding_all rfl) only [exOp, wantedE, ↓reduceIte, ROp.run, evsE, evE, t10, same, loadA, rowA, getA0, List.getElem?_cons_zero, ↓pickQ, Option.map_some, putE, ty, Nat.reduceEqDiff, t15, getA, List.getElem?_cons_succ, List.append_nil, frzL, frz_agg, queL_frz, c1, Cls.isFree, callCls, nidL, tz, queL_nid, unA, beq_self_eq_true, t11, t16, binA, intA, dec_true, t12, t17', t13, t18, t14, t19, c4, t20, ↓pj, t22, ↓n1, t21, t23, eqA, t24, t26, t25, t27, t4, g0a, c3, c2, t1, hia0, faddrA, ↓hpa0, t9, hia, ↓hpa, actL_frz, c5, actL_nid, c6]; rfl) ?_) | (with_reducible show exTs _ _ _ (_ :: _) _ _ _; refine exTs_cons rfl (by simp (disch := first | assumption | omega | with_unfolding_all rfl) only [exC, exOps, exOp, evE, evsE, putE, wantedE, Nat.reduceEqDiff, ↓reduceIte, ROp.run, same, binA, intA, strA, eqA, indexSA, byteA, unA, bounds3, Option.map_some, Option.map_none, dec_true, dec_false, Int.toNat_natCast, Int.natCast_nonneg, beq_self_eq_true, List.append_nil, beq_iff_eq, reduceCtorEq, List.getD_cons_zero, List.getD_cons_succ, loadA, rowA, pickA, bslA, litV, storeA_eq, decide_true, flatA, List.length_cons, List.length_nil, Nat.reduceAdd, List.flatMap_cons, List.flatMap_nil, BEq.rfl, List.cons_append, List.nil_append, if_pos, if_neg, ordered, List.getElem?_cons_zero, List.getElem?_cons_succ, frzL, nidL, frz_func, frz_agg, frz_tup, frz_iface, fresh_func, fresh_agg, fresh_tup, fresh_iface, frz_ptr, frz_sl, fresh_sl, Cls.isFree, Cls.makes, callCls, chain, cond_true, tz, ty, faddrA, allocA, over, List.take_succ_cons, List.take_zero, List.drop_succ_cons, List.drop_zero, List.drop_nil, List.set_cons_zero, List.set_cons_succ, Nat.reduceLeDiff, and_self, Que.c_len, Act.c_len, Job.c_len, boxA_eq, ↓pickQ, ↓pickA5, queL_frz, queL_nid, actL_frz, actL_nid, jobL_frz, jobL_nid, cloneV, cloneH, ↓overQ, osl_one, osl_notTup, osl_cells, oslJ_frz, oslA_frz, dropQ, t1, t4, t9, t10, t11, t12, t13, t14, t15, t16, t17', t18, t19, t20, t21, t22, t23, t24, t25, t26, t27, g0a, getA, getA0, List.getElem?_cons_zero, List.getElem?_cons_succ, hia, hia0, ↓hpa, ↓hpa0, c1, c2, c3, c4, c5, c6, ↓n1, ↓pj, bn, Enc.S_nid, Enc.S_frz, Bool.true_or, Bool.or_true, Bool.not_true, ne_eq, not_true_eq_false, decide_false]; rfl) ?_ ?_))
    all_goals (with_reducible refine exT_done ?_)
    all_goals refine ⟨?_, ?_, ?_, ?_, ?_, ?_, rfl⟩
    all_goals simp only [upd_app, Nat.reduceEqDiff, ↓reduceIte, t1, t2, t4, t9, t15]
  · rintro tm' hp' ⟨k1, k2, k4, k9, k15, k206, rfl⟩
    exact k tm' k1 k2 k4 k9 k15 k206
end
end
section
open Go Go.Proofs

theorem script_round {hint : Nat → Nat} {q : Que} (v : Valid q) {l : List Call} {i : Nat} {c : Call} (hc : l[i]? = some c) (hl : l.length ≤ 4611686018427387904) (hk : c.keep.length ≤ most) {barred : List Int} (hb : barred.length ≤ most) {tm : Env} {hp : HP} (h : ScI q l barred i tm hp) :
    vcE Try.prog hint TR4 208 b6_0 tm hp fun e tm' hp' => e = .normal ∧ ScI (doQ q c).1 l barred (i + 1) tm' hp' := by
  have hi := (List.getElem?_eq_some_iff.1 hc).1
  have hcl : True := trivial
  have v2 := do_valid v c
  obtain ⟨g0, t1, t2, t4, t9⟩ := h
  have hlt : 0 < hp.length := get_lt g0
  have s0a : ∀ l x, List.set (hp ++ l) 0 x = hp.set 0 x ++ l := fun l x => List.set_append_left _ _ hlt
  have g0a : ∀ l, (hp ++ l)[0]? = some (some (.row 29 q.c)) := fun l => app_get g0
  have hw : IntKind.wrap .i64 ((i : Int) + 1) = (i : Int) + 1 := wrap_i64 (by omega) (by omega)
  refine vcE.step (by simp (disch := first | assumption | omega | with_unfolding_all rfl) only [exC, exOps, exOp, wantedE, ↓reduceIte, ROp.run, evsE, evE, t9, putE, ty, Nat.reduceEqDiff, t1, same, Option.map_some, binA, intA, dec_true]; rfl) ?_
  refine vcE.seq (vcE.block ?_)
  refine sc_calls (barred := barred) v hc hl hk ⟨g0, by simp only [upd_app, Nat.reduceEqDiff, ↓reduceIte, t1], by simp only [upd_app, Nat.reduceEqDiff, ↓reduceIte, t2], by simp only [upd_app, Nat.reduceEqDiff, ↓reduceIte, t4], by simp only [upd_app, Nat.reduceEqDiff, ↓reduceIte, t9]⟩ rfl rfl ?_
  intro tm1 hp1 k1
  refine sc_asks v2 hb hc hl k1 rfl rfl ?_
  intro tm2 hp2 k2
  have hh := k2.h
  refine vcE.seq (sc_cmp v v2 hc hl g0 k2 rfl rfl ?_)
  intro tm3 m1 m2 m4 m9 m15 m206
  subst hh
  refine vcE.ex (by simp (disch := first | assumption | omega | with_unfolding_all rfl) only [exC, evE, m206]; rfl) ?_
  refine vcE.ex (by simp (disch := first | assumption | omega | with_unfolding_all rfl) only [exC, exOps, exOp, wantedE, ↓reduceIte, ROp.run, evsE, evE, m15, same, loadA, rowA, getA, List.getElem?_cons_succ, List.getElem?_cons_zero, ↓pickQ, Option.map_some, putE, ty, Nat.reduceEqDiff, m4, storeA_eq, g0a, tz, Que.c_len, Nat.reduceLeDiff, dec_true, over, List.take_zero, List.nil_append, dropQ, List.append_nil, s0a]; rfl) ?_
  refine vcE.ex (by simp (disch := first | assumption | omega | with_unfolding_all rfl) only [exC, exOps, exOp, wantedE, ↓reduceIte, ROp.run, evsE, evE, ty, Nat.reduceEqDiff, m9, putE, same, binA, intA, hw, Option.map_some]; rfl) ?_
  refine ⟨rfl, app_get (set_get g0), ?_, ?_, ?_, ?_⟩
  all_goals simp only [upd_app, Nat.reduceEqDiff, ↓reduceIte, m1, m2, m4]
  rfl

theorem lawScript (q : Que) (l : List Call) (barred : List Int) (tries : Int) (hq : Fits q) (hl : l.length ≤ 4611686018427387904) (hb : barred.length ≤ most) : PC Try.prog 6 [.agg q.c, encC.S l, encI.S barred, .int .i64 tries] (.bool true) := by
  refine pc_e hmG TR4_ok comp6 (by decide) (by simp) (nidL_ok (by rw [nidL, queN]; simp only [nidL, nid, Enc.S_nid, Bool.and_self])) ?_
  have hcl : True := trivial
  have x10 : ∀ {g : FuncId} {xs : List AV}, (Nat.beq g 33) = false → (Nat.beq g 77 || Nat.beq g 78 || Nat.beq g 79 || Nat.beq g 80 || Nat.beq g 81 || Nat.beq g 82 || Nat.beq g 83 || Nat.beq g 34 || Nat.beq g 32 || Nat.beq g 29 || Nat.beq g 31 || Nat.beq g 36 || Nat.beq g 37 || Nat.beq g 39 || Nat.beq g 25 || Nat.beq g 30 || Nat.beq g 35 || Nat.beq g 38 || Nat.beq g 20) = false → TR4 g xs = T10 g xs := fun h1 h2 => (TR4_ne h1).trans (TR3_ne h2)
  have c0 : TR4 10 [] = _ := (x10 rfl rfl).trans T10_lives
  have c1 : TR4 21 [encC.S l] = _ := (x10 rfl rfl).trans (T10_light hl)
  have c2 : TR4 26 [.agg q.c] = _ := (x10 rfl rfl).trans (T10_lightQ hq)
  have c3 : TR4 27 [.agg q.c] = _ := (x10 rfl rfl).trans ((T10_ne rfl).trans (T8_check hq))
  have c4 : TR4 29 [.agg q.c] = _ := (TR4_ne rfl).trans (TR3_check hq)
  have c5 : TR4 30 [.int .i64 tries] = _ := (TR4_ne rfl).trans TR3_pbackoff
  have c6 : TR4 31 [.int .i64 tries] = _ := (TR4_ne rfl).trans TR3_backoff
  have c7 : TR4 23 [.agg q.c] = _ := (x10 rfl rfl).trans (T10_own hq)
  have c8 : TR4 28 [.agg q.c, .agg q.c] = _ := (x10 rfl rfl).trans ((T10_ne rfl).trans (T8_same hq hq))
  rw [decide_eq_true rfl] at c8
  have hfe : Fits Que.empty := ⟨by simp [Que.empty], by simp [Que.empty], by simp [Que.empty]⟩
  have c9 : TR4 32 [.agg [.fsl [] 0, .int .i64 1, .int .i64 0, .fsl [] 0, .fsl [] 0, .bool false]] = some (.rd false (.agg Que.empty.c)) := (TR4_ne rfl).trans (TR3_own hfe)
  have hfill : fillA [(0, 1), (1, 1), (2, 1), (3, 1), (4, 1), (5, 1)] [.nils, .int .i64 0, .int .i64 0, .nils, .nils, .bool false] [(1, .int .i64 1)] = some [.nils, .int .i64 1, .int .i64 0, .nils, .nils, .bool false] := rfl
  have ve : Valid Que.empty := valid_iff.1 (by decide)
  refine vcE.step (by simp (disch := first | assumption | omega | with_unfolding_all rfl) only [exC, exOps, exOp, wantedE, ↓reduceIte, ROp.run, evsE, evE, ty, List.getD_cons_zero, tz, List.length_nil, List.nil_append, putE]; rfl) (vcE.step (by simp (disch := first | assumption | omega | with_unfolding_all rfl) only [exC, exOps, exOp, wantedE, ↓reduceIte, evsE, evE, List.append_nil, frzL, c0, Cls.isFree, callCls, ty, nidL, putE, ROp.run, same, unA, Option.map_some]; rfl) ?_)
  cases h1 : lightC l <;> rw [h1] at c1
  · refine vcE.ex (by simp (disch := first | assumption | omega | with_unfolding_all rfl) only [exC, exOps, exOp, wantedE, ↓reduceIte, ROp.run, evsE, evE, ty, Nat.reduceEqDiff, List.getD_cons_succ, List.getD_cons_zero, putE, List.append_nil, frzL, c1, Cls.isFree, callCls, nidL, same, unA, Option.map_some, beq_iff_eq]; rfl) ?_
    exact ⟨_, rfl, rfl⟩
  cases h2 : q.light <;> rw [h2] at c2
  · refine vcE.ex (by simp (disch := first | assumption | omega | with_unfolding_all rfl) only [exC, exOps, exOp, wantedE, ↓reduceIte, ROp.run, evsE, evE, ty, Nat.reduceEqDiff, List.getD_cons_succ, List.getD_cons_zero, putE, List.append_nil, frzL, c1, Cls.isFree, callCls, nidL, same, unA, Option.map_some, beq_self_eq_true, loadA, rowA, List.getElem?_cons_zero, ↓pickQ, frz_agg, queL_frz, c2, tz, queL_nid, beq_iff_eq]; rfl) ?_
    exact ⟨_, rfl, rfl⟩
  have hg2 : ∀ x y : Int, (x > y) = (y < x) := fun _ _ => rfl
  by_cases h3 : barred.length ≤ 40
  rotate_left
  · refine vcE.ex (by simp (disch := first | assumption | omega | with_unfolding_all rfl) only [exC, exOps, exOp, wantedE, ↓reduceIte, ROp.run, evsE, evE, ty, Nat.reduceEqDiff, List.getD_cons_succ, List.getD_cons_zero, putE, List.append_nil, frzL, c1, Cls.isFree, callCls, nidL, same, unA, Option.map_some, beq_self_eq_true, loadA, rowA, List.getElem?_cons_zero, ↓pickQ, frz_agg, queL_frz, c2, tz, queL_nid, binA, intA, hg2, dec_true]; rfl) ?_
    exact ⟨_, rfl, rfl⟩
  refine vcE.step (by simp (disch := first | assumption | omega | with_unfolding_all rfl) only [exC, exOps, exOp, wantedE, ↓reduceIte, ROp.run, evsE, evE, ty, Nat.reduceEqDiff, List.getD_cons_succ, List.getD_cons_zero, putE, List.append_nil, frzL, c1, Cls.isFree, callCls, nidL, same, unA, Option.map_some, beq_self_eq_true, loadA, rowA, List.getElem?_cons_zero, ↓pickQ, frz_agg, queL_frz, c2, tz, queL_nid, binA, intA, hg2, dec_false]; rfl) ?_
  obtain ⟨l60, lk⟩ := light_len h1
  refine vcE.step (by simp (disch := first | assumption | omega | with_unfolding_all rfl) only [exC, chain, ordered, List.getElem?_cons_zero, List.getElem?_cons_succ, exOps, exOp, wantedE, ↓reduceIte, ROp.run, evsE, evE, ty, Nat.reduceEqDiff, same, loadA, rowA, ↓pickQ, Option.map_some, putE, List.append_nil, frzL, frz_agg, queL_frz, c3, Cls.isFree, callCls, nidL, tz, queL_nid, c4, binA, intA, dec_true, beq_self_eq_true, List.getD_cons_succ, List.getD_cons_zero, c5, c6, c7, c8, unA, cond_true]; rfl) ?_
  refine vcE.then (fun e tm hp => e = .normal ∧ ∃ q', Valid q' ∧ hp[0]? = some (some (.row 29 q'.c)) ∧ tm 1 = encC.S l ∧ tm 2 = encI.S barred ∧ tm 4 = .ptr 0 0) ?_ ?_
  · by_cases hv : q.valid = true
    · have v := valid_iff.1 hv
      rw [Que.check, if_pos hv] at c4
      refine vcE.ex (by simp (disch := first | assumption | omega | with_unfolding_all rfl) only [exC, exOps, exOp, wantedE, ↓reduceIte, ROp.run, evsE, evE, ty, Nat.reduceEqDiff, same, loadA, rowA, List.getElem?_cons_zero, ↓pickQ, Option.map_some, putE, List.append_nil, frzL, frz_agg, queL_frz, c4, Cls.isFree, callCls, nidL, tz, queL_nid, binA, intA, dec_true]; rfl) ?_
      refine ⟨rfl, q, v, rfl, ?_, ?_, ?_⟩
      all_goals simp only [upd_app, Nat.reduceEqDiff, ↓reduceIte]
      all_goals rfl
    · rw [Que.check, if_neg hv] at c4
      refine vcE.ex (by simp (disch := first | assumption | omega | with_unfolding_all rfl) only [exC, exOps, exOp, wantedE, ↓reduceIte, ROp.run, evsE, evE, ty, Nat.reduceEqDiff, same, loadA, rowA, List.getElem?_cons_zero, ↓pickQ, Option.map_some, putE, List.append_nil, frzL, frz, queL_frz, c4, Cls.isFree, callCls, nidL, nid, queL_nid, binA, intA, dec_false, List.length_cons, List.length_nil, List.zip_cons_cons, List.zip_nil_left, hfill, c9, storeA_eq, tz, Que.c_len, Nat.reduceLeDiff, dec_true, over, List.take_zero, List.nil_append, dropQ, List.set_cons_zero]; rfl) ?_
      refine ⟨rfl, Que.empty, ve, rfl, ?_, ?_, ?_⟩
      all_goals simp only [upd_app, Nat.reduceEqDiff, ↓reduceIte]
      all_goals rfl
  rintro e tm hp ⟨rfl, q', v', g0, t1, t2, t4⟩
  refine vcE.then (fun e tm hp => e = .normal) ?_ ?_
  · refine vcE.step (by simp (disch := first | assumption | omega | with_unfolding_all rfl) only [exC, exOps, exOp, wantedE, ↓reduceIte, ROp.run, evsE, evE, putE]; rfl) (vcE.block (vcE.count (by intro l tm hp h; simp at h)
      (fun i tm hp => ScI (runQ q' (l.take i)) l barred i tm hp) l.length ⟨g0, ?_, ?_, ?_, rfl⟩ ?_ ?_))
    · simp only [upd_app, Nat.reduceEqDiff, ↓reduceIte, t1]
    · simp only [upd_app, Nat.reduceEqDiff, ↓reduceIte, t2]
    · simp only [upd_app, Nat.reduceEqDiff, ↓reduceIte, t4]
    · rintro i tm hp hi h
      obtain ⟨c, hc⟩ : ∃ c, l[i]? = some c := ⟨_, List.getElem?_eq_getElem hi⟩
      refine (script_round (runQ_valid v' _) hc hl (lk c (List.mem_of_getElem? hc)) hb h).mono ?_
      rintro e tm' hp' ⟨rfl, k⟩
      rw [← runQ_succ hc] at k
      exact k
    · rintro tm hp ⟨g0, t1, t2, t4, t9⟩
      exact vcE.ex (by simp (disch := first | assumption | omega | with_unfolding_all rfl) only [exC, exOps, exOp, wantedE, ↓reduceIte, ROp.run, evsE, evE, t9, putE, ty, Nat.reduceEqDiff, t1, same, Option.map_some, binA, intA, dec_false]; rfl) rfl
  · rintro e tm hp rfl
    refine vcE.ex (by simp (disch := first | assumption | omega | with_unfolding_all rfl) only [exC, exOps, exOp, wantedE, ↓reduceIte, ROp.run, evsE, evE, putE]; rfl) ?_
    exact ⟨_, rfl, rfl⟩
end
end Go.Gi
