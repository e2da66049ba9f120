/-
  DERIVED. GIVEN WITH THE SEED: THE CARDS: each row of YtblnejkfaniljaaGreatDoorRows.lean that lists a variable, with what it lists TIED to the program's text (the seventh form; the later family's looks); each row that meets fmt, with fmt's text TOLD by the authors' own Lean function (tested against real Go, not proved from fmt's source: count such statements apart). THE CARD IS WHAT COUNTS. Prove the row's statement (the work); the ties are given (YtblnejkfaniljaaGreatDoorTie.lean); close each card by the builder's one call (the guide's Derived/Test/ToyasCard.lean, 'card_holds'). Laid BY PROGRAM, IN A SANDBOX (cutbox-door.mjs). By AI agents, Wed Nov 11 2026. No macro, syntax, notation, axiom, sorry.
-/
import Derived.Test.YtblnejkfaniljaaGreatDoorRows
import GoSem.ClaimSeven
namespace Go.Proofs.YtblnejkfaniljaaGreatDoor
namespace Rows

/-- THE TIED CARD OF 'quitclaimlaw26.BundleSorts'. -/
def bundleSortsCard : Claim7 := { stood := { row := bundleSortsRow, standIns := [], harness := (true, "3c7123ac893f8d06d0bfadf6a28b97bc73cd87190a7ffb1a420e4e00adfff9c6"), looks := false }, kinds := [], alts := [], laidByText := true, laidKinds := [.data, .pinned], laidTests := true, laidLooks := .later }
def BundleSortsCardSaid : Prop := Claim7.holds Tryz.pinned (.plain (OpenSpec.ofChange bundleSortsSpec)) bundleSortsCard

/-- THE SECOND FORM's CARD OF 'quitclaimlaw26.BundleSorts'. -/
def bundleSortsUptoCard : Claim7 := { stood := { row := bundleSortsUptoRow, standIns := [], harness := (true, "3c7123ac893f8d06d0bfadf6a28b97bc73cd87190a7ffb1a420e4e00adfff9c6"), looks := false }, kinds := [], alts := [], laidByText := true, laidKinds := [.data, .pinned], laidTests := true, laidLooks := .later }
def BundleSortsUptoCardSaid : Prop := Claim7.holds Tryz.pinned (.plain (OpenSpec.upto bundleSortsSpec)) bundleSortsUptoCard
end Rows
end Go.Proofs.YtblnejkfaniljaaGreatDoor
