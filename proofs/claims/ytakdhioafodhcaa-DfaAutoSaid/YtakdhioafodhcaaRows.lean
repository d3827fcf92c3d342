/-
  No cell of these rows narrows 'for every input' (looked for: loops, veiled, ifaces, maps, wideKeys, modest, calm, conditions, laid).
  DERIVED. THE GIVEN ROWS OF THIS SEAT. 7 by the template 'for every input the law returns true; each argument reads behind the call as it read before'; 0 by the template 'total and deterministic' (their statements: YtakdhioafodhcaaTotals.lean).
  GIVEN WITH THE SEED: the statements are not yours to turn. If you find one false, say at which input.
  Laid BY PROGRAM, IN A SANDBOX (cutbox-rows.mjs): the forced cells as the released guide's own fill.sh prints them over the translation 725749515b99c89d… (all of the seat's roots in one cut). By AI agents, Wed Nov 11 2026. No macro, syntax, notation, axiom, sorry.
-/
import Derived.Test.YtakdhioafodhcaaChecked
import GoSem.Claim
import GoSem.ClaimJoined
import GoSem.ClaimMapViews
import Derived.JoinedTies
import Derived.KernelRfl
namespace Go.Proofs.Ytakdhioafodhcaa
/- THE CELL 'sum', in the pinned program and in every row, IS THE sha256 OF THE DUMP (.gsa) THAT YtakdhioafodhcaaProg.lean LOADS. Nothing in Lean hashes anything: it is a label: what it is worth is what the hold of that sum in a sandbox is worth. -/
noncomputable def Try.pinned : Pinned := { name := "ytakdhioafodhcaa", sum := "725749515b99c89d8ccd78054a9da703698ab6bf432eab44c8aa8310886393d6", checked := Try.checked }
namespace Rows
def none {H : Type} : Left H := { results := [], args := [] }

/-- 'outlawlaw22.QueueWaits': WHATEVER THE INPUT: true; the input reads as it did. -/
def queueWaitsSpec : ChangeSpec := { name := "queueWaits", fn := fun _ => fun
  | [d1, d2] => { results := [.lit (.bool true)], args := [d1, d2] }
  | _ => none }
def queueWaitsRow : OpenClaim := { program := "ytakdhioafodhcaa", sum := "725749515b99c89d8ccd78054a9da703698ab6bf432eab44c8aa8310886393d6", func := "outlaw/outlawlaw22.QueueWaits", spec := "queueWaits", unfollowed := true, recurses := true, apart := false }
def QueueWaitsSaid : Prop := queueWaitsRow.holds Try.pinned (OpenSpec.ofChange queueWaitsSpec)

/-- ITS FALSE NEIGHBOUR: 'it returns false'. Refute it at one input. -/
def queueWaitsWrong : ChangeSpec := { name := "queueWaits", fn := fun _ => fun
  | [d1, d2] => { results := [.lit (.bool false)], args := [d1, d2] }
  | _ => none }
def QueueWaitsWrongFalsely : Prop := queueWaitsRow.holds Try.pinned (OpenSpec.ofChange queueWaitsWrong)

/-- 'outlawlaw22.QueueOnce': WHATEVER THE INPUT: true; the input reads as it did. -/
def queueOnceSpec : ChangeSpec := { name := "queueOnce", fn := fun _ => fun
  | [d] => { results := [.lit (.bool true)], args := [d] }
  | _ => none }
def queueOnceRow : OpenClaim := { program := "ytakdhioafodhcaa", sum := "725749515b99c89d8ccd78054a9da703698ab6bf432eab44c8aa8310886393d6", func := "outlaw/outlawlaw22.QueueOnce", spec := "queueOnce", unfollowed := true, recurses := true, apart := false }
def QueueOnceSaid : Prop := queueOnceRow.holds Try.pinned (OpenSpec.ofChange queueOnceSpec)

/-- ITS FALSE NEIGHBOUR: 'it returns false'. Refute it at one input. -/
def queueOnceWrong : ChangeSpec := { name := "queueOnce", fn := fun _ => fun
  | [d] => { results := [.lit (.bool false)], args := [d] }
  | _ => none }
def QueueOnceWrongFalsely : Prop := queueOnceRow.holds Try.pinned (OpenSpec.ofChange queueOnceWrong)

/-- 'outlawlaw22.QueueMay': WHATEVER THE INPUT: true; the input reads as it did. -/
def queueMaySpec : ChangeSpec := { name := "queueMay", fn := fun _ => fun
  | [d1, d2] => { results := [.lit (.bool true)], args := [d1, d2] }
  | _ => none }
def queueMayRow : OpenClaim := { program := "ytakdhioafodhcaa", sum := "725749515b99c89d8ccd78054a9da703698ab6bf432eab44c8aa8310886393d6", func := "outlaw/outlawlaw22.QueueMay", spec := "queueMay", unfollowed := true, recurses := true, apart := false }
def QueueMaySaid : Prop := queueMayRow.holds Try.pinned (OpenSpec.ofChange queueMaySpec)

/-- ITS FALSE NEIGHBOUR: 'it returns false'. Refute it at one input. -/
def queueMayWrong : ChangeSpec := { name := "queueMay", fn := fun _ => fun
  | [d1, d2] => { results := [.lit (.bool false)], args := [d1, d2] }
  | _ => none }
def QueueMayWrongFalsely : Prop := queueMayRow.holds Try.pinned (OpenSpec.ofChange queueMayWrong)

/-- 'outlawlaw22.QueueScript': WHATEVER THE INPUT: true; the input reads as it did. -/
def queueScriptSpec : ChangeSpec := { name := "queueScript", fn := fun _ => fun
  | [d1, d2, d3, d4] => { results := [.lit (.bool true)], args := [d1, d2, d3, d4] }
  | _ => none }
def queueScriptRow : OpenClaim := { program := "ytakdhioafodhcaa", sum := "725749515b99c89d8ccd78054a9da703698ab6bf432eab44c8aa8310886393d6", func := "outlaw/outlawlaw22.QueueScript", spec := "queueScript", unfollowed := true, recurses := true, apart := false }
def QueueScriptSaid : Prop := queueScriptRow.holds Try.pinned (OpenSpec.ofChange queueScriptSpec)

/-- ITS FALSE NEIGHBOUR: 'it returns false'. Refute it at one input. -/
def queueScriptWrong : ChangeSpec := { name := "queueScript", fn := fun _ => fun
  | [d1, d2, d3, d4] => { results := [.lit (.bool false)], args := [d1, d2, d3, d4] }
  | _ => none }
def QueueScriptWrongFalsely : Prop := queueScriptRow.holds Try.pinned (OpenSpec.ofChange queueScriptWrong)

/-- 'outlawlaw09.DfaBytes': WHATEVER THE INPUT: true; the input reads as it did. -/
def dfaBytesSpec : ChangeSpec := { name := "dfaBytes", fn := fun _ => fun
  | [d1, d2, d3] => { results := [.lit (.bool true)], args := [d1, d2, d3] }
  | _ => none }
def dfaBytesRow : OpenClaim := { program := "ytakdhioafodhcaa", sum := "725749515b99c89d8ccd78054a9da703698ab6bf432eab44c8aa8310886393d6", func := "outlaw/outlawlaw09.DfaBytes", spec := "dfaBytes", inPlace := ["internal/bytealg.Count", "internal/bytealg.IndexByte", "internal/bytealg.Index", "internal/bytealg.MakeNoZero"], unfollowed := true, recurses := true, named := ["internal/bytealg.MaxLen"], apart := false }
def DfaBytesSaid : Prop := dfaBytesRow.holds Try.pinned (OpenSpec.ofChange dfaBytesSpec)

/-- ITS FALSE NEIGHBOUR: 'it returns false'. Refute it at one input. -/
def dfaBytesWrong : ChangeSpec := { name := "dfaBytes", fn := fun _ => fun
  | [d1, d2, d3] => { results := [.lit (.bool false)], args := [d1, d2, d3] }
  | _ => none }
def DfaBytesWrongFalsely : Prop := dfaBytesRow.holds Try.pinned (OpenSpec.ofChange dfaBytesWrong)

/-- 'outlawlaw09.DfaLess': WHATEVER THE INPUT: true; the input reads as it did. -/
def dfaLessSpec : ChangeSpec := { name := "dfaLess", fn := fun _ => fun
  | [d1, d2, d3, d4] => { results := [.lit (.bool true)], args := [d1, d2, d3, d4] }
  | _ => none }
def dfaLessRow : OpenClaim := { program := "ytakdhioafodhcaa", sum := "725749515b99c89d8ccd78054a9da703698ab6bf432eab44c8aa8310886393d6", func := "outlaw/outlawlaw09.DfaLess", spec := "dfaLess", inPlace := ["internal/bytealg.Count", "internal/bytealg.IndexByte", "internal/bytealg.Index", "internal/bytealg.MakeNoZero"], unfollowed := true, recurses := true, named := ["internal/bytealg.MaxLen"], apart := false }
def DfaLessSaid : Prop := dfaLessRow.holds Try.pinned (OpenSpec.ofChange dfaLessSpec)

/-- ITS FALSE NEIGHBOUR: 'it returns false'. Refute it at one input. -/
def dfaLessWrong : ChangeSpec := { name := "dfaLess", fn := fun _ => fun
  | [d1, d2, d3, d4] => { results := [.lit (.bool false)], args := [d1, d2, d3, d4] }
  | _ => none }
def DfaLessWrongFalsely : Prop := dfaLessRow.holds Try.pinned (OpenSpec.ofChange dfaLessWrong)

/-- 'outlawlaw09.DfaAuto': WHATEVER THE INPUT: true; the input reads as it did. -/
def dfaAutoSpec : ChangeSpec := { name := "dfaAuto", fn := fun _ => fun
  | [d1, d2, d3, d4] => { results := [.lit (.bool true)], args := [d1, d2, d3, d4] }
  | _ => none }
def dfaAutoRow : OpenClaim := { program := "ytakdhioafodhcaa", sum := "725749515b99c89d8ccd78054a9da703698ab6bf432eab44c8aa8310886393d6", func := "outlaw/outlawlaw09.DfaAuto", spec := "dfaAuto", inPlace := ["internal/bytealg.Count", "internal/bytealg.IndexByte", "internal/bytealg.Index", "internal/bytealg.MakeNoZero"], unfollowed := true, recurses := true, named := ["internal/bytealg.MaxLen"], apart := false }
def DfaAutoSaid : Prop := dfaAutoRow.holds Try.pinned (OpenSpec.ofChange dfaAutoSpec)

/-- ITS FALSE NEIGHBOUR: 'it returns false'. Refute it at one input. -/
def dfaAutoWrong : ChangeSpec := { name := "dfaAuto", fn := fun _ => fun
  | [d1, d2, d3, d4] => { results := [.lit (.bool false)], args := [d1, d2, d3, d4] }
  | _ => none }
def DfaAutoWrongFalsely : Prop := dfaAutoRow.holds Try.pinned (OpenSpec.ofChange dfaAutoWrong)

/- THE SECOND FORM. 'bulk': how many values and letters a reading holds, each counted each time it is reached (what is shared counts as often as it is met; a slice's spare places count too). A statement '..UptoSaid' is the law's where the arguments, and the package variables that the reading takes, are together of bulk at most 1048576: NARROWER than '..Said'. Prove '..Said' where nothing that the law and all that it calls make is longer than what came in: it says more and counts as full. Else prove '..UptoSaid'. A law counts once. -/
mutual
def uptoBulk {H : Type} : DataW H → Nat
  | .lit (.string bytes) => bytes.length + 1
  | .lit _ => 1
  | .nil => 1
  | .ptr d => uptoBulk d + 1
  | .slice elems spare => uptoBulkAll elems + uptoBulkAll spare + 1
  | .agg parts => uptoBulkAll parts + 1
  | .iface _ d => uptoBulk d + 1
  | .map entries => uptoBulkEntries entries + 1
  | .held _ => 1
def uptoBulkAll {H : Type} : List (DataW H) → Nat
  | [] => 0
  | d :: r => uptoBulk d + uptoBulkAll r
def uptoBulkEntries {H : Type} : List (Lit × DataW H) → Nat
  | [] => 0
  | x :: r => uptoBulkEntry x + uptoBulkEntries r
def uptoBulkEntry {H : Type} : Lit × DataW H → Nat
  | (.string bytes, d) => bytes.length + uptoBulk d + 1
  | (_, d) => uptoBulk d + 1
 end
def uptoSmall : (H : Type) → List (DataW H) → Bool := fun _ ds => decide (uptoBulkAll ds ≤ 1048576)
def OpenSpec.upto (s : _root_.Go.ChangeSpec) : _root_.Go.OpenSpec := { _root_.Go.OpenSpec.ofChange s with cond := some uptoSmall }

/-- 'outlawlaw22.QueueWaits', WHERE WHAT IT READS IS OF BULK AT MOST 1048576: true; the input reads as it did. -/
def queueWaitsUptoRow : OpenClaim := { program := "ytakdhioafodhcaa", sum := "725749515b99c89d8ccd78054a9da703698ab6bf432eab44c8aa8310886393d6", func := "outlaw/outlawlaw22.QueueWaits", spec := "queueWaits", unfollowed := true, recurses := true, apart := false, narrowed := true }
def QueueWaitsUptoSaid : Prop := queueWaitsUptoRow.holds Try.pinned (OpenSpec.upto queueWaitsSpec)

/-- 'outlawlaw22.QueueOnce', WHERE WHAT IT READS IS OF BULK AT MOST 1048576: true; the input reads as it did. -/
def queueOnceUptoRow : OpenClaim := { program := "ytakdhioafodhcaa", sum := "725749515b99c89d8ccd78054a9da703698ab6bf432eab44c8aa8310886393d6", func := "outlaw/outlawlaw22.QueueOnce", spec := "queueOnce", unfollowed := true, recurses := true, apart := false, narrowed := true }
def QueueOnceUptoSaid : Prop := queueOnceUptoRow.holds Try.pinned (OpenSpec.upto queueOnceSpec)

/-- 'outlawlaw22.QueueMay', WHERE WHAT IT READS IS OF BULK AT MOST 1048576: true; the input reads as it did. -/
def queueMayUptoRow : OpenClaim := { program := "ytakdhioafodhcaa", sum := "725749515b99c89d8ccd78054a9da703698ab6bf432eab44c8aa8310886393d6", func := "outlaw/outlawlaw22.QueueMay", spec := "queueMay", unfollowed := true, recurses := true, apart := false, narrowed := true }
def QueueMayUptoSaid : Prop := queueMayUptoRow.holds Try.pinned (OpenSpec.upto queueMaySpec)

/-- 'outlawlaw22.QueueScript', WHERE WHAT IT READS IS OF BULK AT MOST 1048576: true; the input reads as it did. -/
def queueScriptUptoRow : OpenClaim := { program := "ytakdhioafodhcaa", sum := "725749515b99c89d8ccd78054a9da703698ab6bf432eab44c8aa8310886393d6", func := "outlaw/outlawlaw22.QueueScript", spec := "queueScript", unfollowed := true, recurses := true, apart := false, narrowed := true }
def QueueScriptUptoSaid : Prop := queueScriptUptoRow.holds Try.pinned (OpenSpec.upto queueScriptSpec)

/-- 'outlawlaw09.DfaBytes', WHERE WHAT IT READS IS OF BULK AT MOST 1048576: true; the input reads as it did. -/
def dfaBytesUptoRow : OpenClaim := { program := "ytakdhioafodhcaa", sum := "725749515b99c89d8ccd78054a9da703698ab6bf432eab44c8aa8310886393d6", func := "outlaw/outlawlaw09.DfaBytes", spec := "dfaBytes", inPlace := ["internal/bytealg.Count", "internal/bytealg.IndexByte", "internal/bytealg.Index", "internal/bytealg.MakeNoZero"], unfollowed := true, recurses := true, named := ["internal/bytealg.MaxLen"], apart := false, narrowed := true }
def DfaBytesUptoSaid : Prop := dfaBytesUptoRow.holds Try.pinned (OpenSpec.upto dfaBytesSpec)

/-- 'outlawlaw09.DfaLess', WHERE WHAT IT READS IS OF BULK AT MOST 1048576: true; the input reads as it did. -/
def dfaLessUptoRow : OpenClaim := { program := "ytakdhioafodhcaa", sum := "725749515b99c89d8ccd78054a9da703698ab6bf432eab44c8aa8310886393d6", func := "outlaw/outlawlaw09.DfaLess", spec := "dfaLess", inPlace := ["internal/bytealg.Count", "internal/bytealg.IndexByte", "internal/bytealg.Index", "internal/bytealg.MakeNoZero"], unfollowed := true, recurses := true, named := ["internal/bytealg.MaxLen"], apart := false, narrowed := true }
def DfaLessUptoSaid : Prop := dfaLessUptoRow.holds Try.pinned (OpenSpec.upto dfaLessSpec)

/-- 'outlawlaw09.DfaAuto', WHERE WHAT IT READS IS OF BULK AT MOST 1048576: true; the input reads as it did. -/
def dfaAutoUptoRow : OpenClaim := { program := "ytakdhioafodhcaa", sum := "725749515b99c89d8ccd78054a9da703698ab6bf432eab44c8aa8310886393d6", func := "outlaw/outlawlaw09.DfaAuto", spec := "dfaAuto", inPlace := ["internal/bytealg.Count", "internal/bytealg.IndexByte", "internal/bytealg.Index", "internal/bytealg.MakeNoZero"], unfollowed := true, recurses := true, named := ["internal/bytealg.MaxLen"], apart := false, narrowed := true }
def DfaAutoUptoSaid : Prop := dfaAutoUptoRow.holds Try.pinned (OpenSpec.upto dfaAutoSpec)

end Rows
end Go.Proofs.Ytakdhioafodhcaa
