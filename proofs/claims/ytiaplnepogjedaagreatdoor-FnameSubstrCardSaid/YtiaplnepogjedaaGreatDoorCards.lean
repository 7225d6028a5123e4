/-
  DERIVED. GIVEN WITH THE SEED: THE CARDS: each row of YtiaplnepogjedaaGreatDoorRows.lean that lists a variable, with what it lists TIED to the program's text (the seventh form; the later family's looks); each row that meets fmt, with fmt's text TOLD by the authors' own Lean function (tested against real Go, not proved from fmt's source: count such statements apart). THE CARD IS WHAT COUNTS. Prove the row's statement (the work); the ties are given (YtiaplnepogjedaaGreatDoorTie.lean); close each card by the builder's one call (the guide's Derived/Test/ToyasCard.lean, 'card_holds'). Laid BY PROGRAM, IN A SANDBOX (cutbox-door.mjs). By AI agents, Wed Nov 11 2026. No macro, syntax, notation, axiom, sorry.
-/
import Derived.Test.YtiaplnepogjedaaGreatDoorRows
import GoSem.ClaimSeven
namespace Go.Proofs.YtiaplnepogjedaaGreatDoor
namespace Rows

/-- THE TIED CARD OF 'graticulelaw24.FnameAlias'. -/
def fnameAliasCard : Claim7 := { stood := { row := fnameAliasRow, standIns := [], harness := (true, "bfd9d11f3cb8fe32fb5922d8f336eb76c67fe62fc8b060cb3702f6a6330164f0"), looks := false }, kinds := [], alts := [], laidByText := true, laidKinds := [.data, .pinned], laidTests := true, laidLooks := .later }
def FnameAliasCardSaid : Prop := Claim7.holds Tryz.pinned (.plain (OpenSpec.ofChange fnameAliasSpec)) fnameAliasCard

/-- THE TIED CARD OF 'graticulelaw24.FnameByNode'. -/
def fnameByNodeCard : Claim7 := { stood := { row := fnameByNodeRow, standIns := [], harness := (true, "bfd9d11f3cb8fe32fb5922d8f336eb76c67fe62fc8b060cb3702f6a6330164f0"), looks := false }, kinds := [], alts := [], laidByText := true, laidKinds := [.data, .pinned], laidTests := true, laidLooks := .later }
def FnameByNodeCardSaid : Prop := Claim7.holds Tryz.pinned (.plain (OpenSpec.ofChange fnameByNodeSpec)) fnameByNodeCard

/-- THE TIED CARD OF 'graticulelaw24.FnameSub'. -/
def fnameSubCard : Claim7 := { stood := { row := fnameSubRow, standIns := [], harness := (true, "bfd9d11f3cb8fe32fb5922d8f336eb76c67fe62fc8b060cb3702f6a6330164f0"), looks := false }, kinds := [], alts := [], laidByText := true, laidKinds := [.data, .pinned], laidTests := true, laidLooks := .later }
def FnameSubCardSaid : Prop := Claim7.holds Tryz.pinned (.plain (OpenSpec.ofChange fnameSubSpec)) fnameSubCard

/-- THE TIED CARD OF 'graticulelaw24.FnameSubstr'. -/
def fnameSubstrCard : Claim7 := { stood := { row := fnameSubstrRow, standIns := [], harness := (true, "bfd9d11f3cb8fe32fb5922d8f336eb76c67fe62fc8b060cb3702f6a6330164f0"), looks := false }, kinds := [], alts := [], laidByText := true, laidKinds := [.data, .pinned], laidTests := true, laidLooks := .later }
def FnameSubstrCardSaid : Prop := Claim7.holds Tryz.pinned (.plain (OpenSpec.ofChange fnameSubstrSpec)) fnameSubstrCard

/-- THE TIED CARD OF 'graticulelaw24.FnameOthers'. -/
def fnameOthersCard : Claim7 := { stood := { row := fnameOthersRow, standIns := [], harness := (true, "bfd9d11f3cb8fe32fb5922d8f336eb76c67fe62fc8b060cb3702f6a6330164f0"), looks := false }, kinds := [], alts := [], laidByText := true, laidKinds := [.data, .pinned], laidTests := true, laidLooks := .later }
def FnameOthersCardSaid : Prop := Claim7.holds Tryz.pinned (.plain (OpenSpec.ofChange fnameOthersSpec)) fnameOthersCard

/-- THE SECOND FORM's CARD OF 'graticulelaw24.FnameAlias'. -/
def fnameAliasUptoCard : Claim7 := { stood := { row := fnameAliasUptoRow, standIns := [], harness := (true, "bfd9d11f3cb8fe32fb5922d8f336eb76c67fe62fc8b060cb3702f6a6330164f0"), looks := false }, kinds := [], alts := [], laidByText := true, laidKinds := [.data, .pinned], laidTests := true, laidLooks := .later }
def FnameAliasUptoCardSaid : Prop := Claim7.holds Tryz.pinned (.plain (OpenSpec.upto fnameAliasSpec)) fnameAliasUptoCard

/-- THE SECOND FORM's CARD OF 'graticulelaw24.FnameByNode'. -/
def fnameByNodeUptoCard : Claim7 := { stood := { row := fnameByNodeUptoRow, standIns := [], harness := (true, "bfd9d11f3cb8fe32fb5922d8f336eb76c67fe62fc8b060cb3702f6a6330164f0"), looks := false }, kinds := [], alts := [], laidByText := true, laidKinds := [.data, .pinned], laidTests := true, laidLooks := .later }
def FnameByNodeUptoCardSaid : Prop := Claim7.holds Tryz.pinned (.plain (OpenSpec.upto fnameByNodeSpec)) fnameByNodeUptoCard

/-- THE SECOND FORM's CARD OF 'graticulelaw24.FnameSub'. -/
def fnameSubUptoCard : Claim7 := { stood := { row := fnameSubUptoRow, standIns := [], harness := (true, "bfd9d11f3cb8fe32fb5922d8f336eb76c67fe62fc8b060cb3702f6a6330164f0"), looks := false }, kinds := [], alts := [], laidByText := true, laidKinds := [.data, .pinned], laidTests := true, laidLooks := .later }
def FnameSubUptoCardSaid : Prop := Claim7.holds Tryz.pinned (.plain (OpenSpec.upto fnameSubSpec)) fnameSubUptoCard

/-- THE SECOND FORM's CARD OF 'graticulelaw24.FnameSubstr'. -/
def fnameSubstrUptoCard : Claim7 := { stood := { row := fnameSubstrUptoRow, standIns := [], harness := (true, "bfd9d11f3cb8fe32fb5922d8f336eb76c67fe62fc8b060cb3702f6a6330164f0"), looks := false }, kinds := [], alts := [], laidByText := true, laidKinds := [.data, .pinned], laidTests := true, laidLooks := .later }
def FnameSubstrUptoCardSaid : Prop := Claim7.holds Tryz.pinned (.plain (OpenSpec.upto fnameSubstrSpec)) fnameSubstrUptoCard

/-- THE SECOND FORM's CARD OF 'graticulelaw24.FnameOthers'. -/
def fnameOthersUptoCard : Claim7 := { stood := { row := fnameOthersUptoRow, standIns := [], harness := (true, "bfd9d11f3cb8fe32fb5922d8f336eb76c67fe62fc8b060cb3702f6a6330164f0"), looks := false }, kinds := [], alts := [], laidByText := true, laidKinds := [.data, .pinned], laidTests := true, laidLooks := .later }
def FnameOthersUptoCardSaid : Prop := Claim7.holds Tryz.pinned (.plain (OpenSpec.upto fnameOthersSpec)) fnameOthersUptoCard
end Rows
end Go.Proofs.YtiaplnepogjedaaGreatDoor
