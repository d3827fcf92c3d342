/-
  No cell of these rows narrows 'for every input' (looked for: loops, veiled, ifaces, maps, wideKeys, modest, calm, conditions, laid).
  DERIVED. THE GIVEN ROWS OF THIS SEAT. 12 by the template 'for every input the law returns true; each argument reads behind the call as it read before'; 0 by the template 'total and deterministic' (their statements: YtmehgdpbcafboaaTotals.lean).
  GIVEN WITH THE SEED: the statements are not yours to turn. If you find one false, say at which input.
  Laid BY PROGRAM, IN A SANDBOX (cutbox-rows.mjs): the forced cells as the released guide's own fill.sh prints them over the translation d1e9ef933206068f… (all of the seat's roots in one cut). By AI agents, Wed Nov 11 2026. No macro, syntax, notation, axiom, sorry.
-/
import Derived.Test.YtmehgdpbcafboaaChecked
import GoSem.Claim
import GoSem.ClaimJoined
import GoSem.ClaimMapViews
import Derived.JoinedTies
import Derived.KernelRfl
namespace Go.Proofs.Ytmehgdpbcafboaa
/- THE CELL 'sum', in the pinned program and in every row, IS THE sha256 OF THE DUMP (.gsa) THAT YtmehgdpbcafboaaProg.lean LOADS. Nothing in Lean hashes anything: it is a label: what it is worth is what the hold of that sum in a sandbox is worth. -/
noncomputable def Try.pinned : Pinned := { name := "ytmehgdpbcafboaa", sum := "d1e9ef933206068f027534e034caee6a5e6c7b6cd1d100bd241e03122a0ee599", checked := Try.checked }
namespace Rows
def none {H : Type} : Left H := { results := [], args := [] }

/-- 'outlawlaw07.GlobJoins': WHATEVER THE INPUT: true; the input reads as it did. -/
def globJoinsSpec : ChangeSpec := { name := "globJoins", fn := fun _ => fun
  | [d1, d2, d3, d4, d5, d6] => { results := [.lit (.bool true)], args := [d1, d2, d3, d4, d5, d6] }
  | _ => none }
def globJoinsRow : OpenClaim := { program := "ytmehgdpbcafboaa", sum := "d1e9ef933206068f027534e034caee6a5e6c7b6cd1d100bd241e03122a0ee599", func := "outlaw/outlawlaw07.GlobJoins", spec := "globJoins", unfollowed := true, recurses := true, apart := false }
def GlobJoinsSaid : Prop := globJoinsRow.holds Try.pinned (OpenSpec.ofChange globJoinsSpec)

/-- ITS FALSE NEIGHBOUR: 'it returns false'. Refute it at one input. -/
def globJoinsWrong : ChangeSpec := { name := "globJoins", fn := fun _ => fun
  | [d1, d2, d3, d4, d5, d6] => { results := [.lit (.bool false)], args := [d1, d2, d3, d4, d5, d6] }
  | _ => none }
def GlobJoinsWrongFalsely : Prop := globJoinsRow.holds Try.pinned (OpenSpec.ofChange globJoinsWrong)

/-- 'outlawlaw07.GlobSplits': WHATEVER THE INPUT: true; the input reads as it did. -/
def globSplitsSpec : ChangeSpec := { name := "globSplits", fn := fun _ => fun
  | [d1, d2, d3, d4] => { results := [.lit (.bool true)], args := [d1, d2, d3, d4] }
  | _ => none }
def globSplitsRow : OpenClaim := { program := "ytmehgdpbcafboaa", sum := "d1e9ef933206068f027534e034caee6a5e6c7b6cd1d100bd241e03122a0ee599", func := "outlaw/outlawlaw07.GlobSplits", spec := "globSplits", unfollowed := true, recurses := true, apart := false }
def GlobSplitsSaid : Prop := globSplitsRow.holds Try.pinned (OpenSpec.ofChange globSplitsSpec)

/-- ITS FALSE NEIGHBOUR: 'it returns false'. Refute it at one input. -/
def globSplitsWrong : ChangeSpec := { name := "globSplits", fn := fun _ => fun
  | [d1, d2, d3, d4] => { results := [.lit (.bool false)], args := [d1, d2, d3, d4] }
  | _ => none }
def GlobSplitsWrongFalsely : Prop := globSplitsRow.holds Try.pinned (OpenSpec.ofChange globSplitsWrong)

/-- 'outlawlaw22.QueueWaits': WHATEVER THE INPUT: true; the input reads as it did. -/
def queueWaitsSpec : ChangeSpec := { name := "queueWaits", fn := fun _ => fun
  | [d1, d2] => { results := [.lit (.bool true)], args := [d1, d2] }
  | _ => none }
def queueWaitsRow : OpenClaim := { program := "ytmehgdpbcafboaa", sum := "d1e9ef933206068f027534e034caee6a5e6c7b6cd1d100bd241e03122a0ee599", func := "outlaw/outlawlaw22.QueueWaits", spec := "queueWaits", unfollowed := true, recurses := true, apart := false }
def QueueWaitsSaid : Prop := queueWaitsRow.holds Try.pinned (OpenSpec.ofChange queueWaitsSpec)

/-- ITS FALSE NEIGHBOUR: 'it returns false'. Refute it at one input. -/
def queueWaitsWrong : ChangeSpec := { name := "queueWaits", fn := fun _ => fun
  | [d1, d2] => { results := [.lit (.bool false)], args := [d1, d2] }
  | _ => none }
def QueueWaitsWrongFalsely : Prop := queueWaitsRow.holds Try.pinned (OpenSpec.ofChange queueWaitsWrong)

/-- 'outlawlaw22.QueueOnce': WHATEVER THE INPUT: true; the input reads as it did. -/
def queueOnceSpec : ChangeSpec := { name := "queueOnce", fn := fun _ => fun
  | [d] => { results := [.lit (.bool true)], args := [d] }
  | _ => none }
def queueOnceRow : OpenClaim := { program := "ytmehgdpbcafboaa", sum := "d1e9ef933206068f027534e034caee6a5e6c7b6cd1d100bd241e03122a0ee599", func := "outlaw/outlawlaw22.QueueOnce", spec := "queueOnce", unfollowed := true, recurses := true, apart := false }
def QueueOnceSaid : Prop := queueOnceRow.holds Try.pinned (OpenSpec.ofChange queueOnceSpec)

/-- ITS FALSE NEIGHBOUR: 'it returns false'. Refute it at one input. -/
def queueOnceWrong : ChangeSpec := { name := "queueOnce", fn := fun _ => fun
  | [d] => { results := [.lit (.bool false)], args := [d] }
  | _ => none }
def QueueOnceWrongFalsely : Prop := queueOnceRow.holds Try.pinned (OpenSpec.ofChange queueOnceWrong)

/-- 'outlawlaw22.QueueNames': WHATEVER THE INPUT: true; the input reads as it did. -/
def queueNamesSpec : ChangeSpec := { name := "queueNames", fn := fun _ => fun
  | [] => { results := [.lit (.bool true)], args := [] }
  | _ => none }
def queueNamesRow : OpenClaim := { program := "ytmehgdpbcafboaa", sum := "d1e9ef933206068f027534e034caee6a5e6c7b6cd1d100bd241e03122a0ee599", func := "outlaw/outlawlaw22.QueueNames", spec := "queueNames", unfollowed := true, recurses := true, apart := false }
def QueueNamesSaid : Prop := queueNamesRow.holds Try.pinned (OpenSpec.ofChange queueNamesSpec)

/-- ITS FALSE NEIGHBOUR: 'it returns false'. Refute it at one input. -/
def queueNamesWrong : ChangeSpec := { name := "queueNames", fn := fun _ => fun
  | [] => { results := [.lit (.bool false)], args := [] }
  | _ => none }
def QueueNamesWrongFalsely : Prop := queueNamesRow.holds Try.pinned (OpenSpec.ofChange queueNamesWrong)

/-- 'outlawlaw22.QueueMay': WHATEVER THE INPUT: true; the input reads as it did. -/
def queueMaySpec : ChangeSpec := { name := "queueMay", fn := fun _ => fun
  | [d1, d2] => { results := [.lit (.bool true)], args := [d1, d2] }
  | _ => none }
def queueMayRow : OpenClaim := { program := "ytmehgdpbcafboaa", sum := "d1e9ef933206068f027534e034caee6a5e6c7b6cd1d100bd241e03122a0ee599", func := "outlaw/outlawlaw22.QueueMay", spec := "queueMay", unfollowed := true, recurses := true, apart := false }
def QueueMaySaid : Prop := queueMayRow.holds Try.pinned (OpenSpec.ofChange queueMaySpec)

/-- ITS FALSE NEIGHBOUR: 'it returns false'. Refute it at one input. -/
def queueMayWrong : ChangeSpec := { name := "queueMay", fn := fun _ => fun
  | [d1, d2] => { results := [.lit (.bool false)], args := [d1, d2] }
  | _ => none }
def QueueMayWrongFalsely : Prop := queueMayRow.holds Try.pinned (OpenSpec.ofChange queueMayWrong)

/-- 'outlawlaw22.QueueScript': WHATEVER THE INPUT: true; the input reads as it did. -/
def queueScriptSpec : ChangeSpec := { name := "queueScript", fn := fun _ => fun
  | [d1, d2, d3, d4] => { results := [.lit (.bool true)], args := [d1, d2, d3, d4] }
  | _ => none }
def queueScriptRow : OpenClaim := { program := "ytmehgdpbcafboaa", sum := "d1e9ef933206068f027534e034caee6a5e6c7b6cd1d100bd241e03122a0ee599", func := "outlaw/outlawlaw22.QueueScript", spec := "queueScript", unfollowed := true, recurses := true, apart := false }
def QueueScriptSaid : Prop := queueScriptRow.holds Try.pinned (OpenSpec.ofChange queueScriptSpec)

/-- ITS FALSE NEIGHBOUR: 'it returns false'. Refute it at one input. -/
def queueScriptWrong : ChangeSpec := { name := "queueScript", fn := fun _ => fun
  | [d1, d2, d3, d4] => { results := [.lit (.bool false)], args := [d1, d2, d3, d4] }
  | _ => none }
def QueueScriptWrongFalsely : Prop := queueScriptRow.holds Try.pinned (OpenSpec.ofChange queueScriptWrong)

/-- 'outlawlaw08.NfaJoins': WHATEVER THE INPUT: true; the input reads as it did. -/
def nfaJoinsSpec : ChangeSpec := { name := "nfaJoins", fn := fun _ => fun
  | [d1, d2, d3, d4, d5] => { results := [.lit (.bool true)], args := [d1, d2, d3, d4, d5] }
  | _ => none }
def nfaJoinsRow : OpenClaim := { program := "ytmehgdpbcafboaa", sum := "d1e9ef933206068f027534e034caee6a5e6c7b6cd1d100bd241e03122a0ee599", func := "outlaw/outlawlaw08.NfaJoins", spec := "nfaJoins", inPlace := ["internal/bytealg.Count", "internal/bytealg.IndexByte", "internal/bytealg.Index", "internal/bytealg.MakeNoZero"], unfollowed := true, recurses := true, named := ["internal/bytealg.MaxLen"], apart := false }
def NfaJoinsSaid : Prop := nfaJoinsRow.holds Try.pinned (OpenSpec.ofChange nfaJoinsSpec)

/-- ITS FALSE NEIGHBOUR: 'it returns false'. Refute it at one input. -/
def nfaJoinsWrong : ChangeSpec := { name := "nfaJoins", fn := fun _ => fun
  | [d1, d2, d3, d4, d5] => { results := [.lit (.bool false)], args := [d1, d2, d3, d4, d5] }
  | _ => none }
def NfaJoinsWrongFalsely : Prop := nfaJoinsRow.holds Try.pinned (OpenSpec.ofChange nfaJoinsWrong)

/-- 'outlawlaw08.NfaNames': WHATEVER THE INPUT: true; the input reads as it did. -/
def nfaNamesSpec : ChangeSpec := { name := "nfaNames", fn := fun _ => fun
  | [] => { results := [.lit (.bool true)], args := [] }
  | _ => none }
def nfaNamesRow : OpenClaim := { program := "ytmehgdpbcafboaa", sum := "d1e9ef933206068f027534e034caee6a5e6c7b6cd1d100bd241e03122a0ee599", func := "outlaw/outlawlaw08.NfaNames", spec := "nfaNames", inPlace := ["internal/bytealg.Count", "internal/bytealg.IndexByte", "internal/bytealg.Index", "internal/bytealg.MakeNoZero"], unfollowed := true, recurses := true, named := ["internal/bytealg.MaxLen"], apart := false }
def NfaNamesSaid : Prop := nfaNamesRow.holds Try.pinned (OpenSpec.ofChange nfaNamesSpec)

/-- ITS FALSE NEIGHBOUR: 'it returns false'. Refute it at one input. -/
def nfaNamesWrong : ChangeSpec := { name := "nfaNames", fn := fun _ => fun
  | [] => { results := [.lit (.bool false)], args := [] }
  | _ => none }
def NfaNamesWrongFalsely : Prop := nfaNamesRow.holds Try.pinned (OpenSpec.ofChange nfaNamesWrong)

/-- 'outlawlaw08.NfaCalls': WHATEVER THE INPUT: true; the input reads as it did. -/
def nfaCallsSpec : ChangeSpec := { name := "nfaCalls", fn := fun _ => fun
  | [d1, d2, d3, d4, d5] => { results := [.lit (.bool true)], args := [d1, d2, d3, d4, d5] }
  | _ => none }
def nfaCallsRow : OpenClaim := { program := "ytmehgdpbcafboaa", sum := "d1e9ef933206068f027534e034caee6a5e6c7b6cd1d100bd241e03122a0ee599", func := "outlaw/outlawlaw08.NfaCalls", spec := "nfaCalls", inPlace := ["internal/bytealg.Count", "internal/bytealg.IndexByte", "internal/bytealg.Index", "internal/bytealg.MakeNoZero"], unfollowed := true, recurses := true, named := ["internal/bytealg.MaxLen"], apart := false }
def NfaCallsSaid : Prop := nfaCallsRow.holds Try.pinned (OpenSpec.ofChange nfaCallsSpec)

/-- ITS FALSE NEIGHBOUR: 'it returns false'. Refute it at one input. -/
def nfaCallsWrong : ChangeSpec := { name := "nfaCalls", fn := fun _ => fun
  | [d1, d2, d3, d4, d5] => { results := [.lit (.bool false)], args := [d1, d2, d3, d4, d5] }
  | _ => none }
def NfaCallsWrongFalsely : Prop := nfaCallsRow.holds Try.pinned (OpenSpec.ofChange nfaCallsWrong)

/-- 'outlawlaw08.NfaNil': WHATEVER THE INPUT: true; the input reads as it did. -/
def nfaNilSpec : ChangeSpec := { name := "nfaNil", fn := fun _ => fun
  | [d1, d2, d3] => { results := [.lit (.bool true)], args := [d1, d2, d3] }
  | _ => none }
def nfaNilRow : OpenClaim := { program := "ytmehgdpbcafboaa", sum := "d1e9ef933206068f027534e034caee6a5e6c7b6cd1d100bd241e03122a0ee599", func := "outlaw/outlawlaw08.NfaNil", spec := "nfaNil", inPlace := ["internal/bytealg.Count", "internal/bytealg.IndexByte", "internal/bytealg.Index", "internal/bytealg.MakeNoZero"], unfollowed := true, recurses := true, named := ["internal/bytealg.MaxLen"], apart := false }
def NfaNilSaid : Prop := nfaNilRow.holds Try.pinned (OpenSpec.ofChange nfaNilSpec)

/-- ITS FALSE NEIGHBOUR: 'it returns false'. Refute it at one input. -/
def nfaNilWrong : ChangeSpec := { name := "nfaNil", fn := fun _ => fun
  | [d1, d2, d3] => { results := [.lit (.bool false)], args := [d1, d2, d3] }
  | _ => none }
def NfaNilWrongFalsely : Prop := nfaNilRow.holds Try.pinned (OpenSpec.ofChange nfaNilWrong)

/-- 'outlawlaw08.NfaRun': WHATEVER THE INPUT: true; the input reads as it did. -/
def nfaRunSpec : ChangeSpec := { name := "nfaRun", fn := fun _ => fun
  | [d1, d2, d3] => { results := [.lit (.bool true)], args := [d1, d2, d3] }
  | _ => none }
def nfaRunRow : OpenClaim := { program := "ytmehgdpbcafboaa", sum := "d1e9ef933206068f027534e034caee6a5e6c7b6cd1d100bd241e03122a0ee599", func := "outlaw/outlawlaw08.NfaRun", spec := "nfaRun", inPlace := ["internal/bytealg.Count", "internal/bytealg.IndexByte", "internal/bytealg.Index", "internal/bytealg.MakeNoZero"], unfollowed := true, recurses := true, named := ["internal/bytealg.MaxLen"], apart := false }
def NfaRunSaid : Prop := nfaRunRow.holds Try.pinned (OpenSpec.ofChange nfaRunSpec)

/-- ITS FALSE NEIGHBOUR: 'it returns false'. Refute it at one input. -/
def nfaRunWrong : ChangeSpec := { name := "nfaRun", fn := fun _ => fun
  | [d1, d2, d3] => { results := [.lit (.bool false)], args := [d1, d2, d3] }
  | _ => none }
def NfaRunWrongFalsely : Prop := nfaRunRow.holds Try.pinned (OpenSpec.ofChange nfaRunWrong)

/- THE SECOND FORM. 'bulk': how many values and letters a reading holds, each counted each time it is reached (what is shared counts as often as it is met; a slice's spare places count too). A statement '..UptoSaid' is the law's where the arguments, and the package variables that the reading takes, are together of bulk at most 1048576: NARROWER than '..Said'. Prove '..Said' where nothing that the law and all that it calls make is longer than what came in: it says more and counts as full. Else prove '..UptoSaid'. A law counts once. -/
mutual
def uptoBulk {H : Type} : DataW H → Nat
  | .lit (.string bytes) => bytes.length + 1
  | .lit _ => 1
  | .nil => 1
  | .ptr d => uptoBulk d + 1
  | .slice elems spare => uptoBulkAll elems + uptoBulkAll spare + 1
  | .agg parts => uptoBulkAll parts + 1
  | .iface _ d => uptoBulk d + 1
  | .map entries => uptoBulkEntries entries + 1
  | .held _ => 1
def uptoBulkAll {H : Type} : List (DataW H) → Nat
  | [] => 0
  | d :: r => uptoBulk d + uptoBulkAll r
def uptoBulkEntries {H : Type} : List (Lit × DataW H) → Nat
  | [] => 0
  | x :: r => uptoBulkEntry x + uptoBulkEntries r
def uptoBulkEntry {H : Type} : Lit × DataW H → Nat
  | (.string bytes, d) => bytes.length + uptoBulk d + 1
  | (_, d) => uptoBulk d + 1
 end
def uptoSmall : (H : Type) → List (DataW H) → Bool := fun _ ds => decide (uptoBulkAll ds ≤ 1048576)
def OpenSpec.upto (s : _root_.Go.ChangeSpec) : _root_.Go.OpenSpec := { _root_.Go.OpenSpec.ofChange s with cond := some uptoSmall }

/-- 'outlawlaw07.GlobJoins', WHERE WHAT IT READS IS OF BULK AT MOST 1048576: true; the input reads as it did. -/
def globJoinsUptoRow : OpenClaim := { program := "ytmehgdpbcafboaa", sum := "d1e9ef933206068f027534e034caee6a5e6c7b6cd1d100bd241e03122a0ee599", func := "outlaw/outlawlaw07.GlobJoins", spec := "globJoins", unfollowed := true, recurses := true, apart := false, narrowed := true }
def GlobJoinsUptoSaid : Prop := globJoinsUptoRow.holds Try.pinned (OpenSpec.upto globJoinsSpec)

/-- 'outlawlaw07.GlobSplits', WHERE WHAT IT READS IS OF BULK AT MOST 1048576: true; the input reads as it did. -/
def globSplitsUptoRow : OpenClaim := { program := "ytmehgdpbcafboaa", sum := "d1e9ef933206068f027534e034caee6a5e6c7b6cd1d100bd241e03122a0ee599", func := "outlaw/outlawlaw07.GlobSplits", spec := "globSplits", unfollowed := true, recurses := true, apart := false, narrowed := true }
def GlobSplitsUptoSaid : Prop := globSplitsUptoRow.holds Try.pinned (OpenSpec.upto globSplitsSpec)

/-- 'outlawlaw22.QueueWaits', WHERE WHAT IT READS IS OF BULK AT MOST 1048576: true; the input reads as it did. -/
def queueWaitsUptoRow : OpenClaim := { program := "ytmehgdpbcafboaa", sum := "d1e9ef933206068f027534e034caee6a5e6c7b6cd1d100bd241e03122a0ee599", func := "outlaw/outlawlaw22.QueueWaits", spec := "queueWaits", unfollowed := true, recurses := true, apart := false, narrowed := true }
def QueueWaitsUptoSaid : Prop := queueWaitsUptoRow.holds Try.pinned (OpenSpec.upto queueWaitsSpec)

/-- 'outlawlaw22.QueueOnce', WHERE WHAT IT READS IS OF BULK AT MOST 1048576: true; the input reads as it did. -/
def queueOnceUptoRow : OpenClaim := { program := "ytmehgdpbcafboaa", sum := "d1e9ef933206068f027534e034caee6a5e6c7b6cd1d100bd241e03122a0ee599", func := "outlaw/outlawlaw22.QueueOnce", spec := "queueOnce", unfollowed := true, recurses := true, apart := false, narrowed := true }
def QueueOnceUptoSaid : Prop := queueOnceUptoRow.holds Try.pinned (OpenSpec.upto queueOnceSpec)

/-- 'outlawlaw22.QueueNames', WHERE WHAT IT READS IS OF BULK AT MOST 1048576: true; the input reads as it did. -/
def queueNamesUptoRow : OpenClaim := { program := "ytmehgdpbcafboaa", sum := "d1e9ef933206068f027534e034caee6a5e6c7b6cd1d100bd241e03122a0ee599", func := "outlaw/outlawlaw22.QueueNames", spec := "queueNames", unfollowed := true, recurses := true, apart := false, narrowed := true }
def QueueNamesUptoSaid : Prop := queueNamesUptoRow.holds Try.pinned (OpenSpec.upto queueNamesSpec)

/-- 'outlawlaw22.QueueMay', WHERE WHAT IT READS IS OF BULK AT MOST 1048576: true; the input reads as it did. -/
def queueMayUptoRow : OpenClaim := { program := "ytmehgdpbcafboaa", sum := "d1e9ef933206068f027534e034caee6a5e6c7b6cd1d100bd241e03122a0ee599", func := "outlaw/outlawlaw22.QueueMay", spec := "queueMay", unfollowed := true, recurses := true, apart := false, narrowed := true }
def QueueMayUptoSaid : Prop := queueMayUptoRow.holds Try.pinned (OpenSpec.upto queueMaySpec)

/-- 'outlawlaw22.QueueScript', WHERE WHAT IT READS IS OF BULK AT MOST 1048576: true; the input reads as it did. -/
def queueScriptUptoRow : OpenClaim := { program := "ytmehgdpbcafboaa", sum := "d1e9ef933206068f027534e034caee6a5e6c7b6cd1d100bd241e03122a0ee599", func := "outlaw/outlawlaw22.QueueScript", spec := "queueScript", unfollowed := true, recurses := true, apart := false, narrowed := true }
def QueueScriptUptoSaid : Prop := queueScriptUptoRow.holds Try.pinned (OpenSpec.upto queueScriptSpec)

/-- 'outlawlaw08.NfaJoins', WHERE WHAT IT READS IS OF BULK AT MOST 1048576: true; the input reads as it did. -/
def nfaJoinsUptoRow : OpenClaim := { program := "ytmehgdpbcafboaa", sum := "d1e9ef933206068f027534e034caee6a5e6c7b6cd1d100bd241e03122a0ee599", func := "outlaw/outlawlaw08.NfaJoins", spec := "nfaJoins", inPlace := ["internal/bytealg.Count", "internal/bytealg.IndexByte", "internal/bytealg.Index", "internal/bytealg.MakeNoZero"], unfollowed := true, recurses := true, named := ["internal/bytealg.MaxLen"], apart := false, narrowed := true }
def NfaJoinsUptoSaid : Prop := nfaJoinsUptoRow.holds Try.pinned (OpenSpec.upto nfaJoinsSpec)

/-- 'outlawlaw08.NfaNames', WHERE WHAT IT READS IS OF BULK AT MOST 1048576: true; the input reads as it did. -/
def nfaNamesUptoRow : OpenClaim := { program := "ytmehgdpbcafboaa", sum := "d1e9ef933206068f027534e034caee6a5e6c7b6cd1d100bd241e03122a0ee599", func := "outlaw/outlawlaw08.NfaNames", spec := "nfaNames", inPlace := ["internal/bytealg.Count", "internal/bytealg.IndexByte", "internal/bytealg.Index", "internal/bytealg.MakeNoZero"], unfollowed := true, recurses := true, named := ["internal/bytealg.MaxLen"], apart := false, narrowed := true }
def NfaNamesUptoSaid : Prop := nfaNamesUptoRow.holds Try.pinned (OpenSpec.upto nfaNamesSpec)

/-- 'outlawlaw08.NfaCalls', WHERE WHAT IT READS IS OF BULK AT MOST 1048576: true; the input reads as it did. -/
def nfaCallsUptoRow : OpenClaim := { program := "ytmehgdpbcafboaa", sum := "d1e9ef933206068f027534e034caee6a5e6c7b6cd1d100bd241e03122a0ee599", func := "outlaw/outlawlaw08.NfaCalls", spec := "nfaCalls", inPlace := ["internal/bytealg.Count", "internal/bytealg.IndexByte", "internal/bytealg.Index", "internal/bytealg.MakeNoZero"], unfollowed := true, recurses := true, named := ["internal/bytealg.MaxLen"], apart := false, narrowed := true }
def NfaCallsUptoSaid : Prop := nfaCallsUptoRow.holds Try.pinned (OpenSpec.upto nfaCallsSpec)

/-- 'outlawlaw08.NfaNil', WHERE WHAT IT READS IS OF BULK AT MOST 1048576: true; the input reads as it did. -/
def nfaNilUptoRow : OpenClaim := { program := "ytmehgdpbcafboaa", sum := "d1e9ef933206068f027534e034caee6a5e6c7b6cd1d100bd241e03122a0ee599", func := "outlaw/outlawlaw08.NfaNil", spec := "nfaNil", inPlace := ["internal/bytealg.Count", "internal/bytealg.IndexByte", "internal/bytealg.Index", "internal/bytealg.MakeNoZero"], unfollowed := true, recurses := true, named := ["internal/bytealg.MaxLen"], apart := false, narrowed := true }
def NfaNilUptoSaid : Prop := nfaNilUptoRow.holds Try.pinned (OpenSpec.upto nfaNilSpec)

/-- 'outlawlaw08.NfaRun', WHERE WHAT IT READS IS OF BULK AT MOST 1048576: true; the input reads as it did. -/
def nfaRunUptoRow : OpenClaim := { program := "ytmehgdpbcafboaa", sum := "d1e9ef933206068f027534e034caee6a5e6c7b6cd1d100bd241e03122a0ee599", func := "outlaw/outlawlaw08.NfaRun", spec := "nfaRun", inPlace := ["internal/bytealg.Count", "internal/bytealg.IndexByte", "internal/bytealg.Index", "internal/bytealg.MakeNoZero"], unfollowed := true, recurses := true, named := ["internal/bytealg.MaxLen"], apart := false, narrowed := true }
def NfaRunUptoSaid : Prop := nfaRunUptoRow.holds Try.pinned (OpenSpec.upto nfaRunSpec)

end Rows
end Go.Proofs.Ytmehgdpbcafboaa
