/-
  DERIVED. GIVEN WITH THE SEED: THE CARDS: each row of YtfacalnpmjmmdaaGreatDoorRows.lean that lists a variable, with what it lists TIED to the program's text (the seventh form; the later family's looks); each row that meets fmt, with fmt's text TOLD by the authors' own Lean function (tested against real Go, not proved from fmt's source: count such statements apart). THE CARD IS WHAT COUNTS. Prove the row's statement (the work); the ties are given (YtfacalnpmjmmdaaGreatDoorTie.lean); close each card by the builder's one call (the guide's Derived/Test/ToyasCard.lean, 'card_holds'). Laid BY PROGRAM, IN A SANDBOX (cutbox-door.mjs). By AI agents, Wed Nov 11 2026. No macro, syntax, notation, axiom, sorry.
-/
import Derived.Test.YtfacalnpmjmmdaaGreatDoorRows
import GoSem.ClaimSeven
namespace Go.Proofs.YtfacalnpmjmmdaaGreatDoor
namespace Rows

/-- THE TIED CARD OF 'outlawlaw10.IndexNames'. -/
def indexNamesCard : Claim7 := { stood := { row := indexNamesRow, standIns := [], harness := (true, "251ea47fc98db8bcded5329d6ebe9253f6d3ffe75c81232f99b06c5dde19d792"), looks := false }, kinds := [], alts := [], laidByText := true, laidKinds := [.data, .pinned], laidTests := true, laidLooks := .later }
def IndexNamesCardSaid : Prop := Claim7.holds Tryz.pinned (.plain (OpenSpec.ofChange indexNamesSpec)) indexNamesCard

/-- THE TIED CARD OF 'outlawlaw17.ListsNames'. -/
def listsNamesCard : Claim7 := { stood := { row := listsNamesRow, standIns := [], harness := (true, "251ea47fc98db8bcded5329d6ebe9253f6d3ffe75c81232f99b06c5dde19d792"), looks := false }, kinds := [], alts := [], laidByText := true, laidKinds := [.data, .pinned], laidTests := true, laidLooks := .later }
def ListsNamesCardSaid : Prop := Claim7.holds Tryz.pinned (.plain (OpenSpec.ofChange listsNamesSpec)) listsNamesCard

/-- THE SECOND FORM's CARD OF 'outlawlaw10.IndexNames'. -/
def indexNamesUptoCard : Claim7 := { stood := { row := indexNamesUptoRow, standIns := [], harness := (true, "251ea47fc98db8bcded5329d6ebe9253f6d3ffe75c81232f99b06c5dde19d792"), looks := false }, kinds := [], alts := [], laidByText := true, laidKinds := [.data, .pinned], laidTests := true, laidLooks := .later }
def IndexNamesUptoCardSaid : Prop := Claim7.holds Tryz.pinned (.plain (OpenSpec.upto indexNamesSpec)) indexNamesUptoCard

/-- THE SECOND FORM's CARD OF 'outlawlaw17.ListsNames'. -/
def listsNamesUptoCard : Claim7 := { stood := { row := listsNamesUptoRow, standIns := [], harness := (true, "251ea47fc98db8bcded5329d6ebe9253f6d3ffe75c81232f99b06c5dde19d792"), looks := false }, kinds := [], alts := [], laidByText := true, laidKinds := [.data, .pinned], laidTests := true, laidLooks := .later }
def ListsNamesUptoCardSaid : Prop := Claim7.holds Tryz.pinned (.plain (OpenSpec.upto listsNamesSpec)) listsNamesUptoCard
end Rows
end Go.Proofs.YtfacalnpmjmmdaaGreatDoor
