/-
  DERIVED. GIVEN WITH THE SEED: THE CARDS: each row of YtjkkipfigangaaaGreatDoorRows.lean that lists a variable, with what it lists TIED to the program's text (the seventh form; the later family's looks); each row that meets fmt, with fmt's text TOLD by the authors' own Lean function (tested against real Go, not proved from fmt's source: count such statements apart). THE CARD IS WHAT COUNTS. Prove the row's statement (the work); the ties are given (YtjkkipfigangaaaGreatDoorTie.lean); close each card by the builder's one call (the guide's Derived/Test/ToyasCard.lean, 'card_holds'). Laid BY PROGRAM, IN A SANDBOX (cutbox-door.mjs). By AI agents, Wed Nov 11 2026. No macro, syntax, notation, axiom, sorry.
-/
import Derived.Test.YtjkkipfigangaaaGreatDoorRows
import GoSem.ClaimSeven
namespace Go.Proofs.YtjkkipfigangaaaGreatDoor
namespace Rows

/-- THE TIED CARD OF 'graticulelaw22.FjoinAlone'. -/
def fjoinAloneCard : Claim7 := { stood := { row := fjoinAloneRow, standIns := [], harness := (true, "f4831935966910848a089ba6eb7a8a1bfa588858338709527b02052f61f9b46f"), looks := false }, kinds := [], alts := [], laidByText := true, laidKinds := [.data, .data, .data, .data, .pinned], laidTests := true, laidLooks := .later }
def FjoinAloneCardSaid : Prop := Claim7.holds Tryz.pinned (.plain (OpenSpec.ofChange fjoinAloneSpec)) fjoinAloneCard

/-- THE TIED CARD OF 'graticulelaw22.FjoinBetween'. -/
def fjoinBetweenCard : Claim7 := { stood := { row := fjoinBetweenRow, standIns := [], harness := (true, "f4831935966910848a089ba6eb7a8a1bfa588858338709527b02052f61f9b46f"), looks := false }, kinds := [], alts := [], laidByText := true, laidKinds := [.data, .data, .data, .data, .pinned], laidTests := true, laidLooks := .later }
def FjoinBetweenCardSaid : Prop := Claim7.holds Tryz.pinned (.plain (OpenSpec.ofChange fjoinBetweenSpec)) fjoinBetweenCard

/-- THE TIED CARD OF 'graticulelaw22.FjoinOthers'. -/
def fjoinOthersCard : Claim7 := { stood := { row := fjoinOthersRow, standIns := [], harness := (true, "f4831935966910848a089ba6eb7a8a1bfa588858338709527b02052f61f9b46f"), looks := false }, kinds := [], alts := [], laidByText := true, laidKinds := [.data, .data, .data, .data, .pinned], laidTests := true, laidLooks := .later }
def FjoinOthersCardSaid : Prop := Claim7.holds Tryz.pinned (.plain (OpenSpec.ofChange fjoinOthersSpec)) fjoinOthersCard

/-- THE SECOND FORM's CARD OF 'graticulelaw22.FjoinAlone'. -/
def fjoinAloneUptoCard : Claim7 := { stood := { row := fjoinAloneUptoRow, standIns := [], harness := (true, "f4831935966910848a089ba6eb7a8a1bfa588858338709527b02052f61f9b46f"), looks := false }, kinds := [], alts := [], laidByText := true, laidKinds := [.data, .data, .data, .data, .pinned], laidTests := true, laidLooks := .later }
def FjoinAloneUptoCardSaid : Prop := Claim7.holds Tryz.pinned (.plain (OpenSpec.upto fjoinAloneSpec)) fjoinAloneUptoCard

/-- THE SECOND FORM's CARD OF 'graticulelaw22.FjoinBetween'. -/
def fjoinBetweenUptoCard : Claim7 := { stood := { row := fjoinBetweenUptoRow, standIns := [], harness := (true, "f4831935966910848a089ba6eb7a8a1bfa588858338709527b02052f61f9b46f"), looks := false }, kinds := [], alts := [], laidByText := true, laidKinds := [.data, .data, .data, .data, .pinned], laidTests := true, laidLooks := .later }
def FjoinBetweenUptoCardSaid : Prop := Claim7.holds Tryz.pinned (.plain (OpenSpec.upto fjoinBetweenSpec)) fjoinBetweenUptoCard

/-- THE SECOND FORM's CARD OF 'graticulelaw22.FjoinOthers'. -/
def fjoinOthersUptoCard : Claim7 := { stood := { row := fjoinOthersUptoRow, standIns := [], harness := (true, "f4831935966910848a089ba6eb7a8a1bfa588858338709527b02052f61f9b46f"), looks := false }, kinds := [], alts := [], laidByText := true, laidKinds := [.data, .data, .data, .data, .pinned], laidTests := true, laidLooks := .later }
def FjoinOthersUptoCardSaid : Prop := Claim7.holds Tryz.pinned (.plain (OpenSpec.upto fjoinOthersSpec)) fjoinOthersUptoCard
end Rows
end Go.Proofs.YtjkkipfigangaaaGreatDoor
