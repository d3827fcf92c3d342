/- Queues: the table for the laws; the chapter's examples; QueueWaits. -/
import Derived.Test.YtakdhioafodhcaaGiQuH
import Derived.Test.YtakdhioafodhcaaGiFK
set_option linter.unusedVariables false
set_option linter.unusedSimpArgs false
namespace Go.Gi
open Go Go.Proofs

/-- A queue whose numbers are within bounds. -/
structure OkQ (q : Que) : Prop where
  fits : Fits q
  n1 : 0 ≤ q.next
  n2 : q.next ≤ 1152921504606846976
  t1 : 0 ≤ q.now
  t2 : q.now ≤ 1152921504606846976
  tr : ∀ j ∈ q.jobs, 0 ≤ j.tries ∧ j.tries < 5
instance (q : Que) : Decidable (OkQ q) := decidable_of_iff (Fits q ∧ 0 ≤ q.next ∧ q.next ≤ 1152921504606846976 ∧ 0 ≤ q.now ∧ q.now ≤ 1152921504606846976 ∧ ∀ j ∈ q.jobs, 0 ≤ j.tries ∧ j.tries < 5) ⟨fun ⟨a, b, c, d, e, f⟩ => ⟨a, b, c, d, e, f⟩, fun ⟨a, b, c, d, e, f⟩ => ⟨a, b, c, d, e, f⟩⟩
theorem Valid.ok {q : Que} (v : Valid q) : OkQ q where
  fits := ⟨by have := v.nj; simp only [most]; omega, by have := v.nf; simp only [most]; omega, by have := v.ns; simp only [most]; omega⟩
  n1 := by have := v.n1; omega
  n2 := v.n2
  t1 := v.t1
  t2 := v.t2
  tr j hj := by have := v.js j hj; exact ⟨this.2.2.1, this.2.2.2.1⟩

/-- The table for the laws. -/
def T7 : Tab := ((((((((((T6.addR 11 (.cons .act .nil) fun p => .rd true (.bool p.1.light)).addR 13 .nil fun _ => .rd true (.agg Que.empty.c)).addO 12 (.cons .que (.cons .act .nil)) fun p => if OkQ p.1 then some (.rd true (.tup [.agg (p.1.put p.2.1).1.c, .int .i64 (p.1.put p.2.1).2.1, .int .i64 (p.1.put p.2.1).2.2])) else none).addO 14 (.cons .que (.cons .i64 .nil)) fun p => if OkQ p.1 then some (.rd true (.tup [.agg (p.1.send p.2.1).1.c, .int .i64 (p.1.send p.2.1).2])) else none).addO 15 (.cons .que (.cons .i64 (.cons .bool .nil))) fun p => if OkQ p.1 then some (.rd true (.tup [.agg (p.1.reply p.2.1 p.2.2.1).1.c, .int .i64 (p.1.reply p.2.1 p.2.2.1).2.1, .int .i64 (p.1.reply p.2.1 p.2.2.1).2.2])) else none).addO 19 (.cons .que (.cons .i64 .nil)) fun p => if OkQ p.1 then some (.rd true (.tup [.agg (p.1.pass p.2.1).1.c, .int .i64 (p.1.pass p.2.1).2])) else none).addO 20 (.cons .que (.cons (.S encI) .nil)) fun p => if Fits p.1 ∧ p.2.1.length ≤ most then some (.rd true (.tup [.agg (p.1.nxt p.2.1).1.c, .bool (p.1.nxt p.2.1).2])) else none).addO 16 (.cons .que .nil) fun p => if Fits p.1 then some (.rd true (.agg p.1.clear.c)) else none).addO 18 (.cons .i64 (.cons .i64 .nil)) fun p => if p.2.1 ≤ 9223372036854775807 then some (.rd true (.int .i64 (pick p.1 p.2.1))) else none).addO 17 (.cons (.S encA) (.cons (.S encA) .nil)) fun p => if p.1.length ≤ most then some (.rd true (.bool (decide (p.1 = p.2.1)))) else none).addO 35 (.cons .que (.cons .i64 .nil)) fun p => if Fits p.1 then some (.rd true (.tup [.agg (p.1.find p.2.1).1.c, .bool (p.1.find p.2.1).2])) else none
theorem T7_ok : TabOk Try.prog T7 := by
  refine TabOk.addO (TabOk.addO (TabOk.addO (TabOk.addO (TabOk.addO (TabOk.addO (TabOk.addO (TabOk.addO (TabOk.addO (TabOk.addR (TabOk.addR T6_ok ?_) ?_) ?_) ?_) ?_) ?_) ?_) ?_) ?_) ?_) ?_
  · exact fun p => pLightA p.1
  · exact fun _ => pEmpty
  · intro p r h
    split at h
    · rename_i hv; cases h; exact pPut p.1 hv.fits _ hv.n1 hv.n2
    · cases h
  · intro p r h
    split at h
    · rename_i hv; cases h; exact pSend p.1 hv.fits _
    · cases h
  · intro p r h
    split at h
    · rename_i hv; cases h; exact pReply p.1 hv.fits _ _ hv.t1 hv.t2 hv.tr
    · cases h
  · intro p r h
    split at h
    · rename_i hv; cases h; exact pPass p.1 hv.fits _ hv.t1 hv.t2
    · cases h
  · intro p r h
    split at h
    · rename_i hv; cases h; exact pNext p.1 hv.1 _ hv.2
    · cases h
  · intro p r h
    split at h
    · rename_i hv; cases h; exact pClear p.1 hv
    · cases h
  · intro p r h
    split at h
    · rename_i hv; cases h; exact pPick _ _ hv
    · cases h
  · intro p r h
    split at h
    · rename_i hv; cases h
      simp only [most] at hv
      exact same_pc hmG elA true comp17 (by omega)
    · cases h
  · intro p r h
    split at h
    · rename_i hv; cases h; exact pFind p.1 hv _
    · cases h
theorem T7_find {q : Que} (h : Fits q) (t : Int) : T7 35 [.agg q.c, .int .i64 t] = some (.rd true (.tup [.agg (q.find t).1.c, .bool (q.find t).2])) :=
  (Tab.addO_self _ _ (.cons .que (.cons .i64 .nil)) _ (q, t, ())).trans (if_pos h)
theorem T7_sameA {l m : List Act} (h : l.length ≤ most) : T7 17 [encA.S l, encA.S m] = some (.rd true (.bool (decide (l = m)))) := by
  rw [T7, Tab.addO_ne _ _ _ _ rfl]
  exact (Tab.addO_self _ _ (.cons (.S encA) (.cons (.S encA) .nil)) _ (l, m, ())).trans (if_pos h)
theorem T7_pick (n m : Int) (h : m ≤ 9223372036854775807) : T7 18 [.int .i64 n, .int .i64 m] = some (.rd true (.int .i64 (pick n m))) := by
  rw [T7, Tab.addO_ne _ _ _ _ rfl, Tab.addO_ne _ _ _ _ rfl]
  exact (Tab.addO_self _ _ (.cons .i64 (.cons .i64 .nil)) _ (n, m, ())).trans (if_pos h)
theorem T7_clear {q : Que} (h : Fits q) : T7 16 [.agg q.c] = some (.rd true (.agg q.clear.c)) := by
  rw [T7, Tab.addO_ne _ _ _ _ rfl, Tab.addO_ne _ _ _ _ rfl, Tab.addO_ne _ _ _ _ rfl]
  exact (Tab.addO_self _ _ (.cons .que .nil) _ (q, ())).trans (if_pos h)
theorem T7_next {q : Que} (h : Fits q) {l : List Int} (h2 : l.length ≤ most) : T7 20 [.agg q.c, encI.S l] = some (.rd true (.tup [.agg (q.nxt l).1.c, .bool (q.nxt l).2])) := by
  rw [T7, Tab.addO_ne _ _ _ _ rfl, Tab.addO_ne _ _ _ _ rfl, Tab.addO_ne _ _ _ _ rfl, Tab.addO_ne _ _ _ _ rfl]
  exact (Tab.addO_self _ _ (.cons .que (.cons (.S encI) .nil)) _ (q, l, ())).trans (if_pos ⟨h, h2⟩)
theorem T7_pass {q : Que} (h : OkQ q) (n : Int) : T7 19 [.agg q.c, .int .i64 n] = some (.rd true (.tup [.agg (q.pass n).1.c, .int .i64 (q.pass n).2])) := by
  rw [T7, Tab.addO_ne _ _ _ _ rfl, Tab.addO_ne _ _ _ _ rfl, Tab.addO_ne _ _ _ _ rfl, Tab.addO_ne _ _ _ _ rfl, Tab.addO_ne _ _ _ _ rfl]
  exact (Tab.addO_self _ _ (.cons .que (.cons .i64 .nil)) _ (q, n, ())).trans (if_pos h)
theorem T7_reply {q : Que} (h : OkQ q) (n : Int) (b : Bool) : T7 15 [.agg q.c, .int .i64 n, .bool b] = some (.rd true (.tup [.agg (q.reply n b).1.c, .int .i64 (q.reply n b).2.1, .int .i64 (q.reply n b).2.2])) := by
  rw [T7, Tab.addO_ne _ _ _ _ rfl, Tab.addO_ne _ _ _ _ rfl, Tab.addO_ne _ _ _ _ rfl, Tab.addO_ne _ _ _ _ rfl, Tab.addO_ne _ _ _ _ rfl, Tab.addO_ne _ _ _ _ rfl]
  exact (Tab.addO_self _ _ (.cons .que (.cons .i64 (.cons .bool .nil))) _ (q, n, b, ())).trans (if_pos h)
theorem T7_send {q : Que} (h : OkQ q) (n : Int) : T7 14 [.agg q.c, .int .i64 n] = some (.rd true (.tup [.agg (q.send n).1.c, .int .i64 (q.send n).2])) := by
  rw [T7, Tab.addO_ne _ _ _ _ rfl, Tab.addO_ne _ _ _ _ rfl, Tab.addO_ne _ _ _ _ rfl, Tab.addO_ne _ _ _ _ rfl, Tab.addO_ne _ _ _ _ rfl, Tab.addO_ne _ _ _ _ rfl, Tab.addO_ne _ _ _ _ rfl]
  exact (Tab.addO_self _ _ (.cons .que (.cons .i64 .nil)) _ (q, n, ())).trans (if_pos h)
theorem T7_put {q : Que} (h : OkQ q) (a : Act) : T7 12 [.agg q.c, .agg a.c] = some (.rd true (.tup [.agg (q.put a).1.c, .int .i64 (q.put a).2.1, .int .i64 (q.put a).2.2])) := by
  rw [T7, Tab.addO_ne _ _ _ _ rfl, Tab.addO_ne _ _ _ _ rfl, Tab.addO_ne _ _ _ _ rfl, Tab.addO_ne _ _ _ _ rfl, Tab.addO_ne _ _ _ _ rfl, Tab.addO_ne _ _ _ _ rfl, Tab.addO_ne _ _ _ _ rfl, Tab.addO_ne _ _ _ _ rfl]
  exact (Tab.addO_self _ _ (.cons .que (.cons .act .nil)) _ (q, a, ())).trans (if_pos h)
theorem T7_empty : T7 13 [] = some (.rd true (.agg Que.empty.c)) := rfl
theorem T7_light (a : Act) : T7 11 [.agg a.c] = some (.rd true (.bool a.light)) := rfl

/-! ### Memory behind other memory -/
section
variable {hp : HP} {l : HP} {k : Nat} {x : Option Blk}
theorem getA : (hp ++ l)[hp.length + k]? = l[k]? := by rw [List.getElem?_append_right (by omega), Nat.add_sub_cancel_left]
theorem getA0 : (hp ++ l)[hp.length]? = l[0]? := by rw [List.getElem?_append_right (by omega), Nat.sub_self]
theorem setA : List.set (hp ++ l) (hp.length + k) x = hp ++ l.set k x := by rw [List.set_append_right _ _ (by omega), Nat.add_sub_cancel_left]
theorem setA0 : List.set (hp ++ l) hp.length x = hp ++ l.set 0 x := by rw [List.set_append_right _ _ (by omega), Nat.sub_self]
end
theorem Que.c_cells (q : Que) : cellsA (.agg q.c) = q.c := rfl
theorem over_zq (q : Que) : over [.nils, .int .i64 0, .int .i64 0, .nils, .nils, .bool false] 0 q.c = q.c := rfl
theorem over_qq (q p : Que) : over q.c 0 p.c = p.c := rfl
theorem over_zj (j : Job) : over [.int .i64 0, .int .i64 0, .str [], .str [], .str [], .str [], .bool false, .bool false, .int .i64 0, .int .i64 0] 0 j.c = j.c := rfl

end Go.Gi
