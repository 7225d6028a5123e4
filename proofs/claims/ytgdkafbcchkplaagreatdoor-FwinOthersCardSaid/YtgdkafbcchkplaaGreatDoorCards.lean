/-
  DERIVED. GIVEN WITH THE SEED: THE CARDS: each row of YtgdkafbcchkplaaGreatDoorRows.lean that lists a variable, with what it lists TIED to the program's text (the seventh form; the later family's looks); each row that meets fmt, with fmt's text TOLD by the authors' own Lean function (tested against real Go, not proved from fmt's source: count such statements apart). THE CARD IS WHAT COUNTS. Prove the row's statement (the work); the ties are given (YtgdkafbcchkplaaGreatDoorTie.lean); close each card by the builder's one call (the guide's Derived/Test/ToyasCard.lean, 'card_holds'). Laid BY PROGRAM, IN A SANDBOX (cutbox-door.mjs). By AI agents, Wed Nov 11 2026. No macro, syntax, notation, axiom, sorry.
-/
import Derived.Test.YtgdkafbcchkplaaGreatDoorRows
import GoSem.ClaimSeven
namespace Go.Proofs.YtgdkafbcchkplaaGreatDoor
namespace Rows

/-- THE TIED CARD OF 'graticulelaw21.FwinMovingAverage'. -/
def fwinMovingAverageCard : Claim7 := { stood := { row := fwinMovingAverageRow, standIns := [], harness := (true, "f30331aa3f0c8f2e6688fc7ea45d9f616b8990498449e993d556514b314875bb"), looks := false }, kinds := [], alts := [], laidByText := true, laidKinds := [.data, .data, .data], laidTests := true, laidLooks := .later }
def FwinMovingAverageCardSaid : Prop := Claim7.holds Tryz.pinned (.plain (OpenSpec.ofChange fwinMovingAverageSpec)) fwinMovingAverageCard

/-- THE TIED CARD OF 'graticulelaw21.FwinMovingMax'. -/
def fwinMovingMaxCard : Claim7 := { stood := { row := fwinMovingMaxRow, standIns := [], harness := (true, "f30331aa3f0c8f2e6688fc7ea45d9f616b8990498449e993d556514b314875bb"), looks := false }, kinds := [], alts := [], laidByText := true, laidKinds := [.data, .data, .data], laidTests := true, laidLooks := .later }
def FwinMovingMaxCardSaid : Prop := Claim7.holds Tryz.pinned (.plain (OpenSpec.ofChange fwinMovingMaxSpec)) fwinMovingMaxCard

/-- THE TIED CARD OF 'graticulelaw21.FwinMovingMedian'. -/
def fwinMovingMedianCard : Claim7 := { stood := { row := fwinMovingMedianRow, standIns := [], harness := (true, "f30331aa3f0c8f2e6688fc7ea45d9f616b8990498449e993d556514b314875bb"), looks := false }, kinds := [], alts := [], laidByText := true, laidKinds := [.data, .data, .data], laidTests := true, laidLooks := .later }
def FwinMovingMedianCardSaid : Prop := Claim7.holds Tryz.pinned (.plain (OpenSpec.ofChange fwinMovingMedianSpec)) fwinMovingMedianCard

/-- THE TIED CARD OF 'graticulelaw21.FwinMovingMin'. -/
def fwinMovingMinCard : Claim7 := { stood := { row := fwinMovingMinRow, standIns := [], harness := (true, "f30331aa3f0c8f2e6688fc7ea45d9f616b8990498449e993d556514b314875bb"), looks := false }, kinds := [], alts := [], laidByText := true, laidKinds := [.data, .data, .data], laidTests := true, laidLooks := .later }
def FwinMovingMinCardSaid : Prop := Claim7.holds Tryz.pinned (.plain (OpenSpec.ofChange fwinMovingMinSpec)) fwinMovingMinCard

/-- THE TIED CARD OF 'graticulelaw21.FwinMovingSum'. -/
def fwinMovingSumCard : Claim7 := { stood := { row := fwinMovingSumRow, standIns := [], harness := (true, "f30331aa3f0c8f2e6688fc7ea45d9f616b8990498449e993d556514b314875bb"), looks := false }, kinds := [], alts := [], laidByText := true, laidKinds := [.data, .data, .data], laidTests := true, laidLooks := .later }
def FwinMovingSumCardSaid : Prop := Claim7.holds Tryz.pinned (.plain (OpenSpec.ofChange fwinMovingSumSpec)) fwinMovingSumCard

/-- THE TIED CARD OF 'graticulelaw21.FwinStdev'. -/
def fwinStdevCard : Claim7 := { stood := { row := fwinStdevRow, standIns := [], harness := (true, "f30331aa3f0c8f2e6688fc7ea45d9f616b8990498449e993d556514b314875bb"), looks := false }, kinds := [], alts := [], laidByText := true, laidKinds := [.data, .data, .data], laidTests := true, laidLooks := .later }
def FwinStdevCardSaid : Prop := Claim7.holds Tryz.pinned (.plain (OpenSpec.ofChange fwinStdevSpec)) fwinStdevCard

/-- THE TIED CARD OF 'graticulelaw21.FwinMedian'. -/
def fwinMedianCard : Claim7 := { stood := { row := fwinMedianRow, standIns := [], harness := (true, "f30331aa3f0c8f2e6688fc7ea45d9f616b8990498449e993d556514b314875bb"), looks := false }, kinds := [], alts := [], laidByText := true, laidKinds := [.data, .data, .data], laidTests := true, laidLooks := .later }
def FwinMedianCardSaid : Prop := Claim7.holds Tryz.pinned (.plain (OpenSpec.ofChange fwinMedianSpec)) fwinMedianCard

/-- THE TIED CARD OF 'graticulelaw21.FwinSummarize'. -/
def fwinSummarizeCard : Claim7 := { stood := { row := fwinSummarizeRow, standIns := [], harness := (true, "f30331aa3f0c8f2e6688fc7ea45d9f616b8990498449e993d556514b314875bb"), looks := false }, kinds := [], alts := [], laidByText := true, laidKinds := [.data, .data, .data], laidTests := true, laidLooks := .later }
def FwinSummarizeCardSaid : Prop := Claim7.holds Tryz.pinned (.plain (OpenSpec.ofChange fwinSummarizeSpec)) fwinSummarizeCard

/-- THE TIED CARD OF 'graticulelaw21.FwinHitcount'. -/
def fwinHitcountCard : Claim7 := { stood := { row := fwinHitcountRow, standIns := [], harness := (true, "f30331aa3f0c8f2e6688fc7ea45d9f616b8990498449e993d556514b314875bb"), looks := false }, kinds := [], alts := [], laidByText := true, laidKinds := [.data, .data, .data], laidTests := true, laidLooks := .later }
def FwinHitcountCardSaid : Prop := Claim7.holds Tryz.pinned (.plain (OpenSpec.ofChange fwinHitcountSpec)) fwinHitcountCard

/-- THE TIED CARD OF 'graticulelaw21.FwinOthers'. -/
def fwinOthersCard : Claim7 := { stood := { row := fwinOthersRow, standIns := [], harness := (true, "f30331aa3f0c8f2e6688fc7ea45d9f616b8990498449e993d556514b314875bb"), looks := false }, kinds := [], alts := [], laidByText := true, laidKinds := [.data, .data, .data], laidTests := true, laidLooks := .later }
def FwinOthersCardSaid : Prop := Claim7.holds Tryz.pinned (.plain (OpenSpec.ofChange fwinOthersSpec)) fwinOthersCard

/-- THE SECOND FORM's CARD OF 'graticulelaw21.FwinMovingAverage'. -/
def fwinMovingAverageUptoCard : Claim7 := { stood := { row := fwinMovingAverageUptoRow, standIns := [], harness := (true, "f30331aa3f0c8f2e6688fc7ea45d9f616b8990498449e993d556514b314875bb"), looks := false }, kinds := [], alts := [], laidByText := true, laidKinds := [.data, .data, .data], laidTests := true, laidLooks := .later }
def FwinMovingAverageUptoCardSaid : Prop := Claim7.holds Tryz.pinned (.plain (OpenSpec.upto fwinMovingAverageSpec)) fwinMovingAverageUptoCard

/-- THE SECOND FORM's CARD OF 'graticulelaw21.FwinMovingMax'. -/
def fwinMovingMaxUptoCard : Claim7 := { stood := { row := fwinMovingMaxUptoRow, standIns := [], harness := (true, "f30331aa3f0c8f2e6688fc7ea45d9f616b8990498449e993d556514b314875bb"), looks := false }, kinds := [], alts := [], laidByText := true, laidKinds := [.data, .data, .data], laidTests := true, laidLooks := .later }
def FwinMovingMaxUptoCardSaid : Prop := Claim7.holds Tryz.pinned (.plain (OpenSpec.upto fwinMovingMaxSpec)) fwinMovingMaxUptoCard

/-- THE SECOND FORM's CARD OF 'graticulelaw21.FwinMovingMedian'. -/
def fwinMovingMedianUptoCard : Claim7 := { stood := { row := fwinMovingMedianUptoRow, standIns := [], harness := (true, "f30331aa3f0c8f2e6688fc7ea45d9f616b8990498449e993d556514b314875bb"), looks := false }, kinds := [], alts := [], laidByText := true, laidKinds := [.data, .data, .data], laidTests := true, laidLooks := .later }
def FwinMovingMedianUptoCardSaid : Prop := Claim7.holds Tryz.pinned (.plain (OpenSpec.upto fwinMovingMedianSpec)) fwinMovingMedianUptoCard

/-- THE SECOND FORM's CARD OF 'graticulelaw21.FwinMovingMin'. -/
def fwinMovingMinUptoCard : Claim7 := { stood := { row := fwinMovingMinUptoRow, standIns := [], harness := (true, "f30331aa3f0c8f2e6688fc7ea45d9f616b8990498449e993d556514b314875bb"), looks := false }, kinds := [], alts := [], laidByText := true, laidKinds := [.data, .data, .data], laidTests := true, laidLooks := .later }
def FwinMovingMinUptoCardSaid : Prop := Claim7.holds Tryz.pinned (.plain (OpenSpec.upto fwinMovingMinSpec)) fwinMovingMinUptoCard

/-- THE SECOND FORM's CARD OF 'graticulelaw21.FwinMovingSum'. -/
def fwinMovingSumUptoCard : Claim7 := { stood := { row := fwinMovingSumUptoRow, standIns := [], harness := (true, "f30331aa3f0c8f2e6688fc7ea45d9f616b8990498449e993d556514b314875bb"), looks := false }, kinds := [], alts := [], laidByText := true, laidKinds := [.data, .data, .data], laidTests := true, laidLooks := .later }
def FwinMovingSumUptoCardSaid : Prop := Claim7.holds Tryz.pinned (.plain (OpenSpec.upto fwinMovingSumSpec)) fwinMovingSumUptoCard

/-- THE SECOND FORM's CARD OF 'graticulelaw21.FwinStdev'. -/
def fwinStdevUptoCard : Claim7 := { stood := { row := fwinStdevUptoRow, standIns := [], harness := (true, "f30331aa3f0c8f2e6688fc7ea45d9f616b8990498449e993d556514b314875bb"), looks := false }, kinds := [], alts := [], laidByText := true, laidKinds := [.data, .data, .data], laidTests := true, laidLooks := .later }
def FwinStdevUptoCardSaid : Prop := Claim7.holds Tryz.pinned (.plain (OpenSpec.upto fwinStdevSpec)) fwinStdevUptoCard

/-- THE SECOND FORM's CARD OF 'graticulelaw21.FwinMedian'. -/
def fwinMedianUptoCard : Claim7 := { stood := { row := fwinMedianUptoRow, standIns := [], harness := (true, "f30331aa3f0c8f2e6688fc7ea45d9f616b8990498449e993d556514b314875bb"), looks := false }, kinds := [], alts := [], laidByText := true, laidKinds := [.data, .data, .data], laidTests := true, laidLooks := .later }
def FwinMedianUptoCardSaid : Prop := Claim7.holds Tryz.pinned (.plain (OpenSpec.upto fwinMedianSpec)) fwinMedianUptoCard

/-- THE SECOND FORM's CARD OF 'graticulelaw21.FwinSummarize'. -/
def fwinSummarizeUptoCard : Claim7 := { stood := { row := fwinSummarizeUptoRow, standIns := [], harness := (true, "f30331aa3f0c8f2e6688fc7ea45d9f616b8990498449e993d556514b314875bb"), looks := false }, kinds := [], alts := [], laidByText := true, laidKinds := [.data, .data, .data], laidTests := true, laidLooks := .later }
def FwinSummarizeUptoCardSaid : Prop := Claim7.holds Tryz.pinned (.plain (OpenSpec.upto fwinSummarizeSpec)) fwinSummarizeUptoCard

/-- THE SECOND FORM's CARD OF 'graticulelaw21.FwinHitcount'. -/
def fwinHitcountUptoCard : Claim7 := { stood := { row := fwinHitcountUptoRow, standIns := [], harness := (true, "f30331aa3f0c8f2e6688fc7ea45d9f616b8990498449e993d556514b314875bb"), looks := false }, kinds := [], alts := [], laidByText := true, laidKinds := [.data, .data, .data], laidTests := true, laidLooks := .later }
def FwinHitcountUptoCardSaid : Prop := Claim7.holds Tryz.pinned (.plain (OpenSpec.upto fwinHitcountSpec)) fwinHitcountUptoCard

/-- THE SECOND FORM's CARD OF 'graticulelaw21.FwinOthers'. -/
def fwinOthersUptoCard : Claim7 := { stood := { row := fwinOthersUptoRow, standIns := [], harness := (true, "f30331aa3f0c8f2e6688fc7ea45d9f616b8990498449e993d556514b314875bb"), looks := false }, kinds := [], alts := [], laidByText := true, laidKinds := [.data, .data, .data], laidTests := true, laidLooks := .later }
def FwinOthersUptoCardSaid : Prop := Claim7.holds Tryz.pinned (.plain (OpenSpec.upto fwinOthersSpec)) fwinOthersUptoCard
end Rows
end Go.Proofs.YtgdkafbcchkplaaGreatDoor
