/-
  DERIVED. GIVEN WITH THE SEED: THE CARDS: each row of YtakdhioafodhcaaGreatDoorRows.lean that lists a variable, with what it lists TIED to the program's text (the seventh form; the later family's looks); each row that meets fmt, with fmt's text TOLD by the authors' own Lean function (tested against real Go, not proved from fmt's source: count such statements apart). THE CARD IS WHAT COUNTS. Prove the row's statement (the work); the ties are given (YtakdhioafodhcaaGreatDoorTie.lean); close each card by the builder's one call (the guide's Derived/Test/ToyasCard.lean, 'card_holds'). Laid BY PROGRAM, IN A SANDBOX (cutbox-door.mjs). By AI agents, Wed Nov 11 2026. No macro, syntax, notation, axiom, sorry.
-/
import Derived.Test.YtakdhioafodhcaaGreatDoorRows
import GoSem.ClaimSeven
namespace Go.Proofs.YtakdhioafodhcaaGreatDoor
namespace Rows

/-- THE TIED CARD OF 'outlawlaw10.IndexFull'. -/
def indexFullCard : Claim7 := { stood := { row := indexFullRow, standIns := [], harness := (true, "d4a5c5ee53bca607cb2afc88d2cb2fe4a1c374e686afea724a8a8765928c9d95"), looks := false }, kinds := [], alts := [], laidByText := true, laidKinds := [.data, .pinned], laidTests := true, laidLooks := .later }
def IndexFullCardSaid : Prop := Claim7.holds Tryz.pinned (.plain (OpenSpec.ofChange indexFullSpec)) indexFullCard

/-- THE TIED CARD OF 'outlawlaw10.IndexScript'. -/
def indexScriptCard : Claim7 := { stood := { row := indexScriptRow, standIns := [], harness := (true, "d4a5c5ee53bca607cb2afc88d2cb2fe4a1c374e686afea724a8a8765928c9d95"), looks := false }, kinds := [], alts := [], laidByText := true, laidKinds := [.data, .pinned], laidTests := true, laidLooks := .later }
def IndexScriptCardSaid : Prop := Claim7.holds Tryz.pinned (.plain (OpenSpec.ofChange indexScriptSpec)) indexScriptCard

/-- THE TIED CARD OF 'outlawlaw10.IndexDrop'. -/
def indexDropCard : Claim7 := { stood := { row := indexDropRow, standIns := [], harness := (true, "d4a5c5ee53bca607cb2afc88d2cb2fe4a1c374e686afea724a8a8765928c9d95"), looks := false }, kinds := [], alts := [], laidByText := true, laidKinds := [.data, .pinned], laidTests := true, laidLooks := .later }
def IndexDropCardSaid : Prop := Claim7.holds Tryz.pinned (.plain (OpenSpec.ofChange indexDropSpec)) indexDropCard

/-- THE TIED CARD OF 'outlawlaw10.IndexNil'. -/
def indexNilCard : Claim7 := { stood := { row := indexNilRow, standIns := [], harness := (true, "d4a5c5ee53bca607cb2afc88d2cb2fe4a1c374e686afea724a8a8765928c9d95"), looks := false }, kinds := [], alts := [], laidByText := true, laidKinds := [.data, .pinned], laidTests := true, laidLooks := .later }
def IndexNilCardSaid : Prop := Claim7.holds Tryz.pinned (.plain (OpenSpec.ofChange indexNilSpec)) indexNilCard

/-- THE TIED CARD OF 'outlawlaw10.IndexMost'. -/
def indexMostCard : Claim7 := { stood := { row := indexMostRow, standIns := [], harness := (true, "d4a5c5ee53bca607cb2afc88d2cb2fe4a1c374e686afea724a8a8765928c9d95"), looks := false }, kinds := [], alts := [], laidByText := true, laidKinds := [.data, .pinned], laidTests := true, laidLooks := .later }
def IndexMostCardSaid : Prop := Claim7.holds Tryz.pinned (.plain (OpenSpec.ofChange indexMostSpec)) indexMostCard

/-- THE SECOND FORM's CARD OF 'outlawlaw10.IndexFull'. -/
def indexFullUptoCard : Claim7 := { stood := { row := indexFullUptoRow, standIns := [], harness := (true, "d4a5c5ee53bca607cb2afc88d2cb2fe4a1c374e686afea724a8a8765928c9d95"), looks := false }, kinds := [], alts := [], laidByText := true, laidKinds := [.data, .pinned], laidTests := true, laidLooks := .later }
def IndexFullUptoCardSaid : Prop := Claim7.holds Tryz.pinned (.plain (OpenSpec.upto indexFullSpec)) indexFullUptoCard

/-- THE SECOND FORM's CARD OF 'outlawlaw10.IndexScript'. -/
def indexScriptUptoCard : Claim7 := { stood := { row := indexScriptUptoRow, standIns := [], harness := (true, "d4a5c5ee53bca607cb2afc88d2cb2fe4a1c374e686afea724a8a8765928c9d95"), looks := false }, kinds := [], alts := [], laidByText := true, laidKinds := [.data, .pinned], laidTests := true, laidLooks := .later }
def IndexScriptUptoCardSaid : Prop := Claim7.holds Tryz.pinned (.plain (OpenSpec.upto indexScriptSpec)) indexScriptUptoCard

/-- THE SECOND FORM's CARD OF 'outlawlaw10.IndexDrop'. -/
def indexDropUptoCard : Claim7 := { stood := { row := indexDropUptoRow, standIns := [], harness := (true, "d4a5c5ee53bca607cb2afc88d2cb2fe4a1c374e686afea724a8a8765928c9d95"), looks := false }, kinds := [], alts := [], laidByText := true, laidKinds := [.data, .pinned], laidTests := true, laidLooks := .later }
def IndexDropUptoCardSaid : Prop := Claim7.holds Tryz.pinned (.plain (OpenSpec.upto indexDropSpec)) indexDropUptoCard

/-- THE SECOND FORM's CARD OF 'outlawlaw10.IndexNil'. -/
def indexNilUptoCard : Claim7 := { stood := { row := indexNilUptoRow, standIns := [], harness := (true, "d4a5c5ee53bca607cb2afc88d2cb2fe4a1c374e686afea724a8a8765928c9d95"), looks := false }, kinds := [], alts := [], laidByText := true, laidKinds := [.data, .pinned], laidTests := true, laidLooks := .later }
def IndexNilUptoCardSaid : Prop := Claim7.holds Tryz.pinned (.plain (OpenSpec.upto indexNilSpec)) indexNilUptoCard

/-- THE SECOND FORM's CARD OF 'outlawlaw10.IndexMost'. -/
def indexMostUptoCard : Claim7 := { stood := { row := indexMostUptoRow, standIns := [], harness := (true, "d4a5c5ee53bca607cb2afc88d2cb2fe4a1c374e686afea724a8a8765928c9d95"), looks := false }, kinds := [], alts := [], laidByText := true, laidKinds := [.data, .pinned], laidTests := true, laidLooks := .later }
def IndexMostUptoCardSaid : Prop := Claim7.holds Tryz.pinned (.plain (OpenSpec.upto indexMostSpec)) indexMostUptoCard
end Rows
end Go.Proofs.YtakdhioafodhcaaGreatDoor
