/-
  DERIVED. GIVEN WITH THE SEED: THE CARDS: each row of YtinkfiahfcpopaaGreatDoorRows.lean that lists a variable, with what it lists TIED to the program's text (the seventh form; the later family's looks); each row that meets fmt, with fmt's text TOLD by the authors' own Lean function (tested against real Go, not proved from fmt's source: count such statements apart). THE CARD IS WHAT COUNTS. Prove the row's statement (the work); the ties are given (YtinkfiahfcpopaaGreatDoorTie.lean); close each card by the builder's one call (the guide's Derived/Test/ToyasCard.lean, 'card_holds'). Laid BY PROGRAM, IN A SANDBOX (cutbox-door.mjs). By AI agents, Wed Nov 11 2026. No macro, syntax, notation, axiom, sorry.
-/
import Derived.Test.YtinkfiahfcpopaaGreatDoorRows
import GoSem.ClaimSeven
namespace Go.Proofs.YtinkfiahfcpopaaGreatDoor
namespace Rows

/-- THE TIED CARD OF 'graticulelaw24.FnameGroups'. -/
def fnameGroupsCard : Claim7 := { stood := { row := fnameGroupsRow, standIns := [], harness := (true, "88f031d330f0e369d4baf30f1508cf42f185a6c16136e538f8ac681b7261631e"), looks := false }, kinds := [], alts := [], laidByText := true, laidKinds := [.data, .data, .data, .data, .pinned], laidTests := true, laidLooks := .later }
def FnameGroupsCardSaid : Prop := Claim7.holds Tryz.pinned (.plain (OpenSpec.ofChange fnameGroupsSpec)) fnameGroupsCard

/-- THE TIED CARD OF 'graticulelaw24.FnameKeys'. -/
def fnameKeysCard : Claim7 := { stood := { row := fnameKeysRow, standIns := [], harness := (true, "88f031d330f0e369d4baf30f1508cf42f185a6c16136e538f8ac681b7261631e"), looks := false }, kinds := [], alts := [], laidByText := true, laidKinds := [.data, .data, .data, .data, .pinned], laidTests := true, laidLooks := .later }
def FnameKeysCardSaid : Prop := Claim7.holds Tryz.pinned (.plain (OpenSpec.ofChange fnameKeysSpec)) fnameKeysCard

/-- THE SECOND FORM's CARD OF 'graticulelaw24.FnameGroups'. -/
def fnameGroupsUptoCard : Claim7 := { stood := { row := fnameGroupsUptoRow, standIns := [], harness := (true, "88f031d330f0e369d4baf30f1508cf42f185a6c16136e538f8ac681b7261631e"), looks := false }, kinds := [], alts := [], laidByText := true, laidKinds := [.data, .data, .data, .data, .pinned], laidTests := true, laidLooks := .later }
def FnameGroupsUptoCardSaid : Prop := Claim7.holds Tryz.pinned (.plain (OpenSpec.upto fnameGroupsSpec)) fnameGroupsUptoCard

/-- THE SECOND FORM's CARD OF 'graticulelaw24.FnameKeys'. -/
def fnameKeysUptoCard : Claim7 := { stood := { row := fnameKeysUptoRow, standIns := [], harness := (true, "88f031d330f0e369d4baf30f1508cf42f185a6c16136e538f8ac681b7261631e"), looks := false }, kinds := [], alts := [], laidByText := true, laidKinds := [.data, .data, .data, .data, .pinned], laidTests := true, laidLooks := .later }
def FnameKeysUptoCardSaid : Prop := Claim7.holds Tryz.pinned (.plain (OpenSpec.upto fnameKeysSpec)) fnameKeysUptoCard
end Rows
end Go.Proofs.YtinkfiahfcpopaaGreatDoor
