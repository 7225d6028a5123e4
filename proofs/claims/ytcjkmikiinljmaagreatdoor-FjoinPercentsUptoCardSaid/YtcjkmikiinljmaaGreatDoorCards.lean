/-
  DERIVED. GIVEN WITH THE SEED: THE CARDS: each row of YtcjkmikiinljmaaGreatDoorRows.lean that lists a variable, with what it lists TIED to the program's text (the seventh form; the later family's looks); each row that meets fmt, with fmt's text TOLD by the authors' own Lean function (tested against real Go, not proved from fmt's source: count such statements apart). THE CARD IS WHAT COUNTS. Prove the row's statement (the work); the ties are given (YtcjkmikiinljmaaGreatDoorTie.lean); close each card by the builder's one call (the guide's Derived/Test/ToyasCard.lean, 'card_holds'). Laid BY PROGRAM, IN A SANDBOX (cutbox-door.mjs). By AI agents, Wed Nov 11 2026. No macro, syntax, notation, axiom, sorry.
-/
import Derived.Test.YtcjkmikiinljmaaGreatDoorRows
import GoSem.ClaimSeven
namespace Go.Proofs.YtcjkmikiinljmaaGreatDoor
namespace Rows

/-- THE TIED CARD OF 'graticulelaw22.FjoinSumSeries'. -/
def fjoinSumSeriesCard : Claim7 := { stood := { row := fjoinSumSeriesRow, standIns := [], harness := (true, "0e5640c84fec93c77f242fe03d5fbce4ed3d2c781430112d3db07981c958a2af"), looks := false }, kinds := [], alts := [], laidByText := true, laidKinds := [.data, .data, .data, .data, .pinned], laidTests := true, laidLooks := .later }
def FjoinSumSeriesCardSaid : Prop := Claim7.holds Tryz.pinned (.plain (OpenSpec.ofChange fjoinSumSeriesSpec)) fjoinSumSeriesCard

/-- THE TIED CARD OF 'graticulelaw22.FjoinAverageSeries'. -/
def fjoinAverageSeriesCard : Claim7 := { stood := { row := fjoinAverageSeriesRow, standIns := [], harness := (true, "0e5640c84fec93c77f242fe03d5fbce4ed3d2c781430112d3db07981c958a2af"), looks := false }, kinds := [], alts := [], laidByText := true, laidKinds := [.data, .data, .data, .data, .pinned], laidTests := true, laidLooks := .later }
def FjoinAverageSeriesCardSaid : Prop := Claim7.holds Tryz.pinned (.plain (OpenSpec.ofChange fjoinAverageSeriesSpec)) fjoinAverageSeriesCard

/-- THE TIED CARD OF 'graticulelaw22.FjoinMinSeries'. -/
def fjoinMinSeriesCard : Claim7 := { stood := { row := fjoinMinSeriesRow, standIns := [], harness := (true, "0e5640c84fec93c77f242fe03d5fbce4ed3d2c781430112d3db07981c958a2af"), looks := false }, kinds := [], alts := [], laidByText := true, laidKinds := [.data, .data, .data, .data, .pinned], laidTests := true, laidLooks := .later }
def FjoinMinSeriesCardSaid : Prop := Claim7.holds Tryz.pinned (.plain (OpenSpec.ofChange fjoinMinSeriesSpec)) fjoinMinSeriesCard

/-- THE TIED CARD OF 'graticulelaw22.FjoinMaxSeries'. -/
def fjoinMaxSeriesCard : Claim7 := { stood := { row := fjoinMaxSeriesRow, standIns := [], harness := (true, "0e5640c84fec93c77f242fe03d5fbce4ed3d2c781430112d3db07981c958a2af"), looks := false }, kinds := [], alts := [], laidByText := true, laidKinds := [.data, .data, .data, .data, .pinned], laidTests := true, laidLooks := .later }
def FjoinMaxSeriesCardSaid : Prop := Claim7.holds Tryz.pinned (.plain (OpenSpec.ofChange fjoinMaxSeriesSpec)) fjoinMaxSeriesCard

/-- THE TIED CARD OF 'graticulelaw22.FjoinMedianSeries'. -/
def fjoinMedianSeriesCard : Claim7 := { stood := { row := fjoinMedianSeriesRow, standIns := [], harness := (true, "0e5640c84fec93c77f242fe03d5fbce4ed3d2c781430112d3db07981c958a2af"), looks := false }, kinds := [], alts := [], laidByText := true, laidKinds := [.data, .data, .data, .data, .pinned], laidTests := true, laidLooks := .later }
def FjoinMedianSeriesCardSaid : Prop := Claim7.holds Tryz.pinned (.plain (OpenSpec.ofChange fjoinMedianSeriesSpec)) fjoinMedianSeriesCard

/-- THE TIED CARD OF 'graticulelaw22.FjoinRangeOfSeries'. -/
def fjoinRangeOfSeriesCard : Claim7 := { stood := { row := fjoinRangeOfSeriesRow, standIns := [], harness := (true, "0e5640c84fec93c77f242fe03d5fbce4ed3d2c781430112d3db07981c958a2af"), looks := false }, kinds := [], alts := [], laidByText := true, laidKinds := [.data, .data, .data, .data, .pinned], laidTests := true, laidLooks := .later }
def FjoinRangeOfSeriesCardSaid : Prop := Claim7.holds Tryz.pinned (.plain (OpenSpec.ofChange fjoinRangeOfSeriesSpec)) fjoinRangeOfSeriesCard

/-- THE TIED CARD OF 'graticulelaw22.FjoinMultiplySeries'. -/
def fjoinMultiplySeriesCard : Claim7 := { stood := { row := fjoinMultiplySeriesRow, standIns := [], harness := (true, "0e5640c84fec93c77f242fe03d5fbce4ed3d2c781430112d3db07981c958a2af"), looks := false }, kinds := [], alts := [], laidByText := true, laidKinds := [.data, .data, .data, .data, .pinned], laidTests := true, laidLooks := .later }
def FjoinMultiplySeriesCardSaid : Prop := Claim7.holds Tryz.pinned (.plain (OpenSpec.ofChange fjoinMultiplySeriesSpec)) fjoinMultiplySeriesCard

/-- THE TIED CARD OF 'graticulelaw22.FjoinStddevSeries'. -/
def fjoinStddevSeriesCard : Claim7 := { stood := { row := fjoinStddevSeriesRow, standIns := [], harness := (true, "0e5640c84fec93c77f242fe03d5fbce4ed3d2c781430112d3db07981c958a2af"), looks := false }, kinds := [], alts := [], laidByText := true, laidKinds := [.data, .data, .data, .data, .pinned], laidTests := true, laidLooks := .later }
def FjoinStddevSeriesCardSaid : Prop := Claim7.holds Tryz.pinned (.plain (OpenSpec.ofChange fjoinStddevSeriesSpec)) fjoinStddevSeriesCard

/-- THE TIED CARD OF 'graticulelaw22.FjoinCountSeries'. -/
def fjoinCountSeriesCard : Claim7 := { stood := { row := fjoinCountSeriesRow, standIns := [], harness := (true, "0e5640c84fec93c77f242fe03d5fbce4ed3d2c781430112d3db07981c958a2af"), looks := false }, kinds := [], alts := [], laidByText := true, laidKinds := [.data, .data, .data, .data, .pinned], laidTests := true, laidLooks := .later }
def FjoinCountSeriesCardSaid : Prop := Claim7.holds Tryz.pinned (.plain (OpenSpec.ofChange fjoinCountSeriesSpec)) fjoinCountSeriesCard

/-- THE TIED CARD OF 'graticulelaw22.FjoinDiffSeries'. -/
def fjoinDiffSeriesCard : Claim7 := { stood := { row := fjoinDiffSeriesRow, standIns := [], harness := (true, "0e5640c84fec93c77f242fe03d5fbce4ed3d2c781430112d3db07981c958a2af"), looks := false }, kinds := [], alts := [], laidByText := true, laidKinds := [.data, .data, .data, .data, .pinned], laidTests := true, laidLooks := .later }
def FjoinDiffSeriesCardSaid : Prop := Claim7.holds Tryz.pinned (.plain (OpenSpec.ofChange fjoinDiffSeriesSpec)) fjoinDiffSeriesCard

/-- THE TIED CARD OF 'graticulelaw22.FjoinPercentile'. -/
def fjoinPercentileCard : Claim7 := { stood := { row := fjoinPercentileRow, standIns := [], harness := (true, "0e5640c84fec93c77f242fe03d5fbce4ed3d2c781430112d3db07981c958a2af"), looks := false }, kinds := [], alts := [], laidByText := true, laidKinds := [.data, .data, .data, .data, .pinned], laidTests := true, laidLooks := .later }
def FjoinPercentileCardSaid : Prop := Claim7.holds Tryz.pinned (.plain (OpenSpec.ofChange fjoinPercentileSpec)) fjoinPercentileCard

/-- THE TIED CARD OF 'graticulelaw22.FjoinAggregate'. -/
def fjoinAggregateCard : Claim7 := { stood := { row := fjoinAggregateRow, standIns := [], harness := (true, "0e5640c84fec93c77f242fe03d5fbce4ed3d2c781430112d3db07981c958a2af"), looks := false }, kinds := [], alts := [], laidByText := true, laidKinds := [.data, .data, .data, .data, .pinned], laidTests := true, laidLooks := .later }
def FjoinAggregateCardSaid : Prop := Claim7.holds Tryz.pinned (.plain (OpenSpec.ofChange fjoinAggregateSpec)) fjoinAggregateCard

/-- THE TIED CARD OF 'graticulelaw22.FjoinAlone'. -/
def fjoinAloneCard : Claim7 := { stood := { row := fjoinAloneRow, standIns := [], harness := (true, "0e5640c84fec93c77f242fe03d5fbce4ed3d2c781430112d3db07981c958a2af"), looks := false }, kinds := [], alts := [], laidByText := true, laidKinds := [.data, .data, .data, .data, .pinned], laidTests := true, laidLooks := .later }
def FjoinAloneCardSaid : Prop := Claim7.holds Tryz.pinned (.plain (OpenSpec.ofChange fjoinAloneSpec)) fjoinAloneCard

/-- THE TIED CARD OF 'graticulelaw22.FjoinBetween'. -/
def fjoinBetweenCard : Claim7 := { stood := { row := fjoinBetweenRow, standIns := [], harness := (true, "0e5640c84fec93c77f242fe03d5fbce4ed3d2c781430112d3db07981c958a2af"), looks := false }, kinds := [], alts := [], laidByText := true, laidKinds := [.data, .data, .data, .data, .pinned], laidTests := true, laidLooks := .later }
def FjoinBetweenCardSaid : Prop := Claim7.holds Tryz.pinned (.plain (OpenSpec.ofChange fjoinBetweenSpec)) fjoinBetweenCard

/-- THE TIED CARD OF 'graticulelaw22.FjoinDivides'. -/
def fjoinDividesCard : Claim7 := { stood := { row := fjoinDividesRow, standIns := [], harness := (true, "0e5640c84fec93c77f242fe03d5fbce4ed3d2c781430112d3db07981c958a2af"), looks := false }, kinds := [], alts := [], laidByText := true, laidKinds := [.data, .data, .data, .data, .pinned], laidTests := true, laidLooks := .later }
def FjoinDividesCardSaid : Prop := Claim7.holds Tryz.pinned (.plain (OpenSpec.ofChange fjoinDividesSpec)) fjoinDividesCard

/-- THE TIED CARD OF 'graticulelaw22.FjoinPercents'. -/
def fjoinPercentsCard : Claim7 := { stood := { row := fjoinPercentsRow, standIns := [], harness := (true, "0e5640c84fec93c77f242fe03d5fbce4ed3d2c781430112d3db07981c958a2af"), looks := false }, kinds := [], alts := [], laidByText := true, laidKinds := [.data, .data, .data, .data, .pinned], laidTests := true, laidLooks := .later }
def FjoinPercentsCardSaid : Prop := Claim7.holds Tryz.pinned (.plain (OpenSpec.ofChange fjoinPercentsSpec)) fjoinPercentsCard

/-- THE TIED CARD OF 'graticulelaw22.FjoinOthers'. -/
def fjoinOthersCard : Claim7 := { stood := { row := fjoinOthersRow, standIns := [], harness := (true, "0e5640c84fec93c77f242fe03d5fbce4ed3d2c781430112d3db07981c958a2af"), looks := false }, kinds := [], alts := [], laidByText := true, laidKinds := [.data, .data, .data, .data, .pinned], laidTests := true, laidLooks := .later }
def FjoinOthersCardSaid : Prop := Claim7.holds Tryz.pinned (.plain (OpenSpec.ofChange fjoinOthersSpec)) fjoinOthersCard

/-- THE SECOND FORM's CARD OF 'graticulelaw22.FjoinSumSeries'. -/
def fjoinSumSeriesUptoCard : Claim7 := { stood := { row := fjoinSumSeriesUptoRow, standIns := [], harness := (true, "0e5640c84fec93c77f242fe03d5fbce4ed3d2c781430112d3db07981c958a2af"), looks := false }, kinds := [], alts := [], laidByText := true, laidKinds := [.data, .data, .data, .data, .pinned], laidTests := true, laidLooks := .later }
def FjoinSumSeriesUptoCardSaid : Prop := Claim7.holds Tryz.pinned (.plain (OpenSpec.upto fjoinSumSeriesSpec)) fjoinSumSeriesUptoCard

/-- THE SECOND FORM's CARD OF 'graticulelaw22.FjoinAverageSeries'. -/
def fjoinAverageSeriesUptoCard : Claim7 := { stood := { row := fjoinAverageSeriesUptoRow, standIns := [], harness := (true, "0e5640c84fec93c77f242fe03d5fbce4ed3d2c781430112d3db07981c958a2af"), looks := false }, kinds := [], alts := [], laidByText := true, laidKinds := [.data, .data, .data, .data, .pinned], laidTests := true, laidLooks := .later }
def FjoinAverageSeriesUptoCardSaid : Prop := Claim7.holds Tryz.pinned (.plain (OpenSpec.upto fjoinAverageSeriesSpec)) fjoinAverageSeriesUptoCard

/-- THE SECOND FORM's CARD OF 'graticulelaw22.FjoinMinSeries'. -/
def fjoinMinSeriesUptoCard : Claim7 := { stood := { row := fjoinMinSeriesUptoRow, standIns := [], harness := (true, "0e5640c84fec93c77f242fe03d5fbce4ed3d2c781430112d3db07981c958a2af"), looks := false }, kinds := [], alts := [], laidByText := true, laidKinds := [.data, .data, .data, .data, .pinned], laidTests := true, laidLooks := .later }
def FjoinMinSeriesUptoCardSaid : Prop := Claim7.holds Tryz.pinned (.plain (OpenSpec.upto fjoinMinSeriesSpec)) fjoinMinSeriesUptoCard

/-- THE SECOND FORM's CARD OF 'graticulelaw22.FjoinMaxSeries'. -/
def fjoinMaxSeriesUptoCard : Claim7 := { stood := { row := fjoinMaxSeriesUptoRow, standIns := [], harness := (true, "0e5640c84fec93c77f242fe03d5fbce4ed3d2c781430112d3db07981c958a2af"), looks := false }, kinds := [], alts := [], laidByText := true, laidKinds := [.data, .data, .data, .data, .pinned], laidTests := true, laidLooks := .later }
def FjoinMaxSeriesUptoCardSaid : Prop := Claim7.holds Tryz.pinned (.plain (OpenSpec.upto fjoinMaxSeriesSpec)) fjoinMaxSeriesUptoCard

/-- THE SECOND FORM's CARD OF 'graticulelaw22.FjoinMedianSeries'. -/
def fjoinMedianSeriesUptoCard : Claim7 := { stood := { row := fjoinMedianSeriesUptoRow, standIns := [], harness := (true, "0e5640c84fec93c77f242fe03d5fbce4ed3d2c781430112d3db07981c958a2af"), looks := false }, kinds := [], alts := [], laidByText := true, laidKinds := [.data, .data, .data, .data, .pinned], laidTests := true, laidLooks := .later }
def FjoinMedianSeriesUptoCardSaid : Prop := Claim7.holds Tryz.pinned (.plain (OpenSpec.upto fjoinMedianSeriesSpec)) fjoinMedianSeriesUptoCard

/-- THE SECOND FORM's CARD OF 'graticulelaw22.FjoinRangeOfSeries'. -/
def fjoinRangeOfSeriesUptoCard : Claim7 := { stood := { row := fjoinRangeOfSeriesUptoRow, standIns := [], harness := (true, "0e5640c84fec93c77f242fe03d5fbce4ed3d2c781430112d3db07981c958a2af"), looks := false }, kinds := [], alts := [], laidByText := true, laidKinds := [.data, .data, .data, .data, .pinned], laidTests := true, laidLooks := .later }
def FjoinRangeOfSeriesUptoCardSaid : Prop := Claim7.holds Tryz.pinned (.plain (OpenSpec.upto fjoinRangeOfSeriesSpec)) fjoinRangeOfSeriesUptoCard

/-- THE SECOND FORM's CARD OF 'graticulelaw22.FjoinMultiplySeries'. -/
def fjoinMultiplySeriesUptoCard : Claim7 := { stood := { row := fjoinMultiplySeriesUptoRow, standIns := [], harness := (true, "0e5640c84fec93c77f242fe03d5fbce4ed3d2c781430112d3db07981c958a2af"), looks := false }, kinds := [], alts := [], laidByText := true, laidKinds := [.data, .data, .data, .data, .pinned], laidTests := true, laidLooks := .later }
def FjoinMultiplySeriesUptoCardSaid : Prop := Claim7.holds Tryz.pinned (.plain (OpenSpec.upto fjoinMultiplySeriesSpec)) fjoinMultiplySeriesUptoCard

/-- THE SECOND FORM's CARD OF 'graticulelaw22.FjoinStddevSeries'. -/
def fjoinStddevSeriesUptoCard : Claim7 := { stood := { row := fjoinStddevSeriesUptoRow, standIns := [], harness := (true, "0e5640c84fec93c77f242fe03d5fbce4ed3d2c781430112d3db07981c958a2af"), looks := false }, kinds := [], alts := [], laidByText := true, laidKinds := [.data, .data, .data, .data, .pinned], laidTests := true, laidLooks := .later }
def FjoinStddevSeriesUptoCardSaid : Prop := Claim7.holds Tryz.pinned (.plain (OpenSpec.upto fjoinStddevSeriesSpec)) fjoinStddevSeriesUptoCard

/-- THE SECOND FORM's CARD OF 'graticulelaw22.FjoinCountSeries'. -/
def fjoinCountSeriesUptoCard : Claim7 := { stood := { row := fjoinCountSeriesUptoRow, standIns := [], harness := (true, "0e5640c84fec93c77f242fe03d5fbce4ed3d2c781430112d3db07981c958a2af"), looks := false }, kinds := [], alts := [], laidByText := true, laidKinds := [.data, .data, .data, .data, .pinned], laidTests := true, laidLooks := .later }
def FjoinCountSeriesUptoCardSaid : Prop := Claim7.holds Tryz.pinned (.plain (OpenSpec.upto fjoinCountSeriesSpec)) fjoinCountSeriesUptoCard

/-- THE SECOND FORM's CARD OF 'graticulelaw22.FjoinDiffSeries'. -/
def fjoinDiffSeriesUptoCard : Claim7 := { stood := { row := fjoinDiffSeriesUptoRow, standIns := [], harness := (true, "0e5640c84fec93c77f242fe03d5fbce4ed3d2c781430112d3db07981c958a2af"), looks := false }, kinds := [], alts := [], laidByText := true, laidKinds := [.data, .data, .data, .data, .pinned], laidTests := true, laidLooks := .later }
def FjoinDiffSeriesUptoCardSaid : Prop := Claim7.holds Tryz.pinned (.plain (OpenSpec.upto fjoinDiffSeriesSpec)) fjoinDiffSeriesUptoCard

/-- THE SECOND FORM's CARD OF 'graticulelaw22.FjoinPercentile'. -/
def fjoinPercentileUptoCard : Claim7 := { stood := { row := fjoinPercentileUptoRow, standIns := [], harness := (true, "0e5640c84fec93c77f242fe03d5fbce4ed3d2c781430112d3db07981c958a2af"), looks := false }, kinds := [], alts := [], laidByText := true, laidKinds := [.data, .data, .data, .data, .pinned], laidTests := true, laidLooks := .later }
def FjoinPercentileUptoCardSaid : Prop := Claim7.holds Tryz.pinned (.plain (OpenSpec.upto fjoinPercentileSpec)) fjoinPercentileUptoCard

/-- THE SECOND FORM's CARD OF 'graticulelaw22.FjoinAggregate'. -/
def fjoinAggregateUptoCard : Claim7 := { stood := { row := fjoinAggregateUptoRow, standIns := [], harness := (true, "0e5640c84fec93c77f242fe03d5fbce4ed3d2c781430112d3db07981c958a2af"), looks := false }, kinds := [], alts := [], laidByText := true, laidKinds := [.data, .data, .data, .data, .pinned], laidTests := true, laidLooks := .later }
def FjoinAggregateUptoCardSaid : Prop := Claim7.holds Tryz.pinned (.plain (OpenSpec.upto fjoinAggregateSpec)) fjoinAggregateUptoCard

/-- THE SECOND FORM's CARD OF 'graticulelaw22.FjoinAlone'. -/
def fjoinAloneUptoCard : Claim7 := { stood := { row := fjoinAloneUptoRow, standIns := [], harness := (true, "0e5640c84fec93c77f242fe03d5fbce4ed3d2c781430112d3db07981c958a2af"), looks := false }, kinds := [], alts := [], laidByText := true, laidKinds := [.data, .data, .data, .data, .pinned], laidTests := true, laidLooks := .later }
def FjoinAloneUptoCardSaid : Prop := Claim7.holds Tryz.pinned (.plain (OpenSpec.upto fjoinAloneSpec)) fjoinAloneUptoCard

/-- THE SECOND FORM's CARD OF 'graticulelaw22.FjoinBetween'. -/
def fjoinBetweenUptoCard : Claim7 := { stood := { row := fjoinBetweenUptoRow, standIns := [], harness := (true, "0e5640c84fec93c77f242fe03d5fbce4ed3d2c781430112d3db07981c958a2af"), looks := false }, kinds := [], alts := [], laidByText := true, laidKinds := [.data, .data, .data, .data, .pinned], laidTests := true, laidLooks := .later }
def FjoinBetweenUptoCardSaid : Prop := Claim7.holds Tryz.pinned (.plain (OpenSpec.upto fjoinBetweenSpec)) fjoinBetweenUptoCard

/-- THE SECOND FORM's CARD OF 'graticulelaw22.FjoinDivides'. -/
def fjoinDividesUptoCard : Claim7 := { stood := { row := fjoinDividesUptoRow, standIns := [], harness := (true, "0e5640c84fec93c77f242fe03d5fbce4ed3d2c781430112d3db07981c958a2af"), looks := false }, kinds := [], alts := [], laidByText := true, laidKinds := [.data, .data, .data, .data, .pinned], laidTests := true, laidLooks := .later }
def FjoinDividesUptoCardSaid : Prop := Claim7.holds Tryz.pinned (.plain (OpenSpec.upto fjoinDividesSpec)) fjoinDividesUptoCard

/-- THE SECOND FORM's CARD OF 'graticulelaw22.FjoinPercents'. -/
def fjoinPercentsUptoCard : Claim7 := { stood := { row := fjoinPercentsUptoRow, standIns := [], harness := (true, "0e5640c84fec93c77f242fe03d5fbce4ed3d2c781430112d3db07981c958a2af"), looks := false }, kinds := [], alts := [], laidByText := true, laidKinds := [.data, .data, .data, .data, .pinned], laidTests := true, laidLooks := .later }
def FjoinPercentsUptoCardSaid : Prop := Claim7.holds Tryz.pinned (.plain (OpenSpec.upto fjoinPercentsSpec)) fjoinPercentsUptoCard

/-- THE SECOND FORM's CARD OF 'graticulelaw22.FjoinOthers'. -/
def fjoinOthersUptoCard : Claim7 := { stood := { row := fjoinOthersUptoRow, standIns := [], harness := (true, "0e5640c84fec93c77f242fe03d5fbce4ed3d2c781430112d3db07981c958a2af"), looks := false }, kinds := [], alts := [], laidByText := true, laidKinds := [.data, .data, .data, .data, .pinned], laidTests := true, laidLooks := .later }
def FjoinOthersUptoCardSaid : Prop := Claim7.holds Tryz.pinned (.plain (OpenSpec.upto fjoinOthersSpec)) fjoinOthersUptoCard
end Rows
end Go.Proofs.YtcjkmikiinljmaaGreatDoor
