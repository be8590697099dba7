/-
  DERIVED. GIVEN WITH THE SEED: THE CARDS: each row of YtljolihlhfabnaaGreatDoorRows.lean that lists a variable, with what it lists TIED to the program's text (the seventh form; the later family's looks); each row that meets fmt, with fmt's text TOLD by the authors' own Lean function (tested against real Go, not proved from fmt's source: count such statements apart). THE CARD IS WHAT COUNTS. Prove the row's statement (the work); the ties are given (YtljolihlhfabnaaGreatDoorTie.lean); close each card by the builder's one call (the guide's Derived/Test/ToyasCard.lean, 'card_holds'). Laid BY PROGRAM, IN A SANDBOX (cutbox-door.mjs). By AI agents, Wed Nov 11 2026. No macro, syntax, notation, axiom, sorry.
-/
import Derived.Test.YtljolihlhfabnaaGreatDoorRows
import GoSem.ClaimSeven
namespace Go.Proofs.YtljolihlhfabnaaGreatDoor
namespace Rows

/-- THE TIED CARD OF 'skylarklaw11.ValsBack'. -/
def valsBackCard : Claim7 := { stood := { row := valsBackRow, standIns := [], harness := (true, "576f17bba627f19e9f3719ec82f3f6066e82512ff65fe4187db1086c278d6f17"), looks := true }, kinds := [], alts := [], laidByText := true, laidKinds := [.data, .data, .data, .data, .sentinel, .sentinel, .pinned], laidTests := true, laidLooks := .later }
def ValsBackCardSaid : Prop := Claim7.holds Tryz.pinned (.plain (OpenSpec.ofChange valsBackSpec)) valsBackCard

/-- THE TIED CARD OF 'skylarklaw11.ValsFresh'. -/
def valsFreshCard : Claim7 := { stood := { row := valsFreshRow, standIns := [], harness := (true, "576f17bba627f19e9f3719ec82f3f6066e82512ff65fe4187db1086c278d6f17"), looks := true }, kinds := [], alts := [], laidByText := true, laidKinds := [.data, .data, .data, .data, .sentinel, .sentinel, .pinned], laidTests := true, laidLooks := .later }
def ValsFreshCardSaid : Prop := Claim7.holds Tryz.pinned (.plain (OpenSpec.ofChange valsFreshSpec)) valsFreshCard

/-- THE TIED CARD OF 'skylarklaw11.ValsSafe'. -/
def valsSafeCard : Claim7 := { stood := { row := valsSafeRow, standIns := [], harness := (true, "576f17bba627f19e9f3719ec82f3f6066e82512ff65fe4187db1086c278d6f17"), looks := true }, kinds := [], alts := [], laidByText := true, laidKinds := [.data, .data, .data, .data, .sentinel, .sentinel, .pinned], laidTests := true, laidLooks := .later }
def ValsSafeCardSaid : Prop := Claim7.holds Tryz.pinned (.plain (OpenSpec.ofChange valsSafeSpec)) valsSafeCard

/-- THE SECOND FORM's CARD OF 'skylarklaw11.ValsBack'. -/
def valsBackUptoCard : Claim7 := { stood := { row := valsBackUptoRow, standIns := [], harness := (true, "576f17bba627f19e9f3719ec82f3f6066e82512ff65fe4187db1086c278d6f17"), looks := true }, kinds := [], alts := [], laidByText := true, laidKinds := [.data, .data, .data, .data, .sentinel, .sentinel, .pinned], laidTests := true, laidLooks := .later }
def ValsBackUptoCardSaid : Prop := Claim7.holds Tryz.pinned (.plain (OpenSpec.upto valsBackSpec)) valsBackUptoCard

/-- THE SECOND FORM's CARD OF 'skylarklaw11.ValsFresh'. -/
def valsFreshUptoCard : Claim7 := { stood := { row := valsFreshUptoRow, standIns := [], harness := (true, "576f17bba627f19e9f3719ec82f3f6066e82512ff65fe4187db1086c278d6f17"), looks := true }, kinds := [], alts := [], laidByText := true, laidKinds := [.data, .data, .data, .data, .sentinel, .sentinel, .pinned], laidTests := true, laidLooks := .later }
def ValsFreshUptoCardSaid : Prop := Claim7.holds Tryz.pinned (.plain (OpenSpec.upto valsFreshSpec)) valsFreshUptoCard

/-- THE SECOND FORM's CARD OF 'skylarklaw11.ValsSafe'. -/
def valsSafeUptoCard : Claim7 := { stood := { row := valsSafeUptoRow, standIns := [], harness := (true, "576f17bba627f19e9f3719ec82f3f6066e82512ff65fe4187db1086c278d6f17"), looks := true }, kinds := [], alts := [], laidByText := true, laidKinds := [.data, .data, .data, .data, .sentinel, .sentinel, .pinned], laidTests := true, laidLooks := .later }
def ValsSafeUptoCardSaid : Prop := Claim7.holds Tryz.pinned (.plain (OpenSpec.upto valsSafeSpec)) valsSafeUptoCard
end Rows
end Go.Proofs.YtljolihlhfabnaaGreatDoor
