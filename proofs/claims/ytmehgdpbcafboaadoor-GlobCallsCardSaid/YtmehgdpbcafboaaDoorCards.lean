/-
  DERIVED. GIVEN WITH THE SEED: THE CARDS: each row of YtmehgdpbcafboaaDoorRows.lean that lists a variable, with what it lists TIED to the program's text (the seventh form; the later family's looks); each row that meets fmt, with fmt's text TOLD by the authors' own Lean function (tested against real Go, not proved from fmt's source: count such statements apart). THE CARD IS WHAT COUNTS. Prove the row's statement (the work); the ties are given (YtmehgdpbcafboaaDoorTie.lean); close each card by the builder's one call (the guide's Derived/Test/ToyasCard.lean, 'card_holds'). Laid BY PROGRAM, IN A SANDBOX (cutbox-door.mjs). By AI agents, Wed Nov 11 2026. No macro, syntax, notation, axiom, sorry.
-/
import Derived.Test.YtmehgdpbcafboaaDoorRows
import GoSem.ClaimSeven
namespace Go.Proofs.YtmehgdpbcafboaaDoor
namespace Rows

/-- THE TIED CARD OF 'outlawlaw07.GlobNorm'. -/
def globNormCard : Claim7 := { stood := { row := globNormRow, standIns := [], harness := (true, "fbcca5f9f85f32444ec1f1f5072ab6e6004e95e67ff1ae2bcabd178206e66e03"), looks := false }, kinds := [], alts := [], laidByText := true, laidKinds := [.data, .pinned], laidTests := true, laidLooks := .later }
def GlobNormCardSaid : Prop := Claim7.holds Tryd.pinned (.plain (OpenSpec.ofChange globNormSpec)) globNormCard

/-- THE TIED CARD OF 'outlawlaw07.GlobNames'. -/
def globNamesCard : Claim7 := { stood := { row := globNamesRow, standIns := [], harness := (true, "fbcca5f9f85f32444ec1f1f5072ab6e6004e95e67ff1ae2bcabd178206e66e03"), looks := false }, kinds := [], alts := [], laidByText := true, laidKinds := [.data, .pinned], laidTests := true, laidLooks := .later }
def GlobNamesCardSaid : Prop := Claim7.holds Tryd.pinned (.plain (OpenSpec.ofChange globNamesSpec)) globNamesCard

/-- THE TIED CARD OF 'outlawlaw07.GlobCalls'. -/
def globCallsCard : Claim7 := { stood := { row := globCallsRow, standIns := [], harness := (true, "fbcca5f9f85f32444ec1f1f5072ab6e6004e95e67ff1ae2bcabd178206e66e03"), looks := false }, kinds := [], alts := [], laidByText := true, laidKinds := [.data, .pinned], laidTests := true, laidLooks := .later }
def GlobCallsCardSaid : Prop := Claim7.holds Tryd.pinned (.plain (OpenSpec.ofChange globCallsSpec)) globCallsCard

/-- THE SECOND FORM's CARD OF 'outlawlaw07.GlobNorm'. -/
def globNormUptoCard : Claim7 := { stood := { row := globNormUptoRow, standIns := [], harness := (true, "fbcca5f9f85f32444ec1f1f5072ab6e6004e95e67ff1ae2bcabd178206e66e03"), looks := false }, kinds := [], alts := [], laidByText := true, laidKinds := [.data, .pinned], laidTests := true, laidLooks := .later }
def GlobNormUptoCardSaid : Prop := Claim7.holds Tryd.pinned (.plain (OpenSpec.upto globNormSpec)) globNormUptoCard

/-- THE SECOND FORM's CARD OF 'outlawlaw07.GlobNames'. -/
def globNamesUptoCard : Claim7 := { stood := { row := globNamesUptoRow, standIns := [], harness := (true, "fbcca5f9f85f32444ec1f1f5072ab6e6004e95e67ff1ae2bcabd178206e66e03"), looks := false }, kinds := [], alts := [], laidByText := true, laidKinds := [.data, .pinned], laidTests := true, laidLooks := .later }
def GlobNamesUptoCardSaid : Prop := Claim7.holds Tryd.pinned (.plain (OpenSpec.upto globNamesSpec)) globNamesUptoCard

/-- THE SECOND FORM's CARD OF 'outlawlaw07.GlobCalls'. -/
def globCallsUptoCard : Claim7 := { stood := { row := globCallsUptoRow, standIns := [], harness := (true, "fbcca5f9f85f32444ec1f1f5072ab6e6004e95e67ff1ae2bcabd178206e66e03"), looks := false }, kinds := [], alts := [], laidByText := true, laidKinds := [.data, .pinned], laidTests := true, laidLooks := .later }
def GlobCallsUptoCardSaid : Prop := Claim7.holds Tryd.pinned (.plain (OpenSpec.upto globCallsSpec)) globCallsUptoCard
end Rows
end Go.Proofs.YtmehgdpbcafboaaDoor
