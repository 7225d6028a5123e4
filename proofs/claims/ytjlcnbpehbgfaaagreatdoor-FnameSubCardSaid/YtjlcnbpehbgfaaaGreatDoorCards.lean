/-
  DERIVED. GIVEN WITH THE SEED: THE CARDS: each row of YtjlcnbpehbgfaaaGreatDoorRows.lean that lists a variable, with what it lists TIED to the program's text (the seventh form; the later family's looks); each row that meets fmt, with fmt's text TOLD by the authors' own Lean function (tested against real Go, not proved from fmt's source: count such statements apart). THE CARD IS WHAT COUNTS. Prove the row's statement (the work); the ties are given (YtjlcnbpehbgfaaaGreatDoorTie.lean); close each card by the builder's one call (the guide's Derived/Test/ToyasCard.lean, 'card_holds'). Laid BY PROGRAM, IN A SANDBOX (cutbox-door.mjs). By AI agents, Wed Nov 11 2026. No macro, syntax, notation, axiom, sorry.
-/
import Derived.Test.YtjlcnbpehbgfaaaGreatDoorRows
import GoSem.ClaimSeven
namespace Go.Proofs.YtjlcnbpehbgfaaaGreatDoor
namespace Rows

/-- THE TIED CARD OF 'graticulelaw24.FnameSub'. -/
def fnameSubCard : Claim7 := { stood := { row := fnameSubRow, standIns := [], harness := (true, "61c90549ca2a882ef538ccaf0a7ed9e765d3551d4498ec0acb52633d7f0e79ed"), looks := false }, kinds := [], alts := [], laidByText := true, laidKinds := [.data, .pinned], laidTests := true, laidLooks := .later }
def FnameSubCardSaid : Prop := Claim7.holds Tryz.pinned (.plain (OpenSpec.ofChange fnameSubSpec)) fnameSubCard

/-- THE TIED CARD OF 'graticulelaw24.FnameOthers'. -/
def fnameOthersCard : Claim7 := { stood := { row := fnameOthersRow, standIns := [], harness := (true, "61c90549ca2a882ef538ccaf0a7ed9e765d3551d4498ec0acb52633d7f0e79ed"), looks := false }, kinds := [], alts := [], laidByText := true, laidKinds := [.data, .pinned], laidTests := true, laidLooks := .later }
def FnameOthersCardSaid : Prop := Claim7.holds Tryz.pinned (.plain (OpenSpec.ofChange fnameOthersSpec)) fnameOthersCard

/-- THE SECOND FORM's CARD OF 'graticulelaw24.FnameSub'. -/
def fnameSubUptoCard : Claim7 := { stood := { row := fnameSubUptoRow, standIns := [], harness := (true, "61c90549ca2a882ef538ccaf0a7ed9e765d3551d4498ec0acb52633d7f0e79ed"), looks := false }, kinds := [], alts := [], laidByText := true, laidKinds := [.data, .pinned], laidTests := true, laidLooks := .later }
def FnameSubUptoCardSaid : Prop := Claim7.holds Tryz.pinned (.plain (OpenSpec.upto fnameSubSpec)) fnameSubUptoCard

/-- THE SECOND FORM's CARD OF 'graticulelaw24.FnameOthers'. -/
def fnameOthersUptoCard : Claim7 := { stood := { row := fnameOthersUptoRow, standIns := [], harness := (true, "61c90549ca2a882ef538ccaf0a7ed9e765d3551d4498ec0acb52633d7f0e79ed"), looks := false }, kinds := [], alts := [], laidByText := true, laidKinds := [.data, .pinned], laidTests := true, laidLooks := .later }
def FnameOthersUptoCardSaid : Prop := Claim7.holds Tryz.pinned (.plain (OpenSpec.upto fnameOthersSpec)) fnameOthersUptoCard
end Rows
end Go.Proofs.YtjlcnbpehbgfaaaGreatDoor
