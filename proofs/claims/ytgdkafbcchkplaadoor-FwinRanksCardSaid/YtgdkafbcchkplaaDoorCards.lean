/-
  DERIVED. GIVEN WITH THE SEED: THE CARDS: each row of YtgdkafbcchkplaaDoorRows.lean that lists a variable, with what it lists TIED to the program's text (the seventh form; the later family's looks); each row that meets fmt, with fmt's text TOLD by the authors' own Lean function (tested against real Go, not proved from fmt's source: count such statements apart). THE CARD IS WHAT COUNTS. Prove the row's statement (the work); the ties are given (YtgdkafbcchkplaaDoorTie.lean); close each card by the builder's one call (the guide's Derived/Test/ToyasCard.lean, 'card_holds'). Laid BY PROGRAM, IN A SANDBOX (cutbox-door.mjs). By AI agents, Wed Nov 11 2026. No macro, syntax, notation, axiom, sorry.
-/
import Derived.Test.YtgdkafbcchkplaaDoorRows
import GoSem.ClaimSeven
namespace Go.Proofs.YtgdkafbcchkplaaDoor
namespace Rows

/-- THE TIED CARD OF 'graticulelaw21.FwinOne'. -/
def fwinOneCard : Claim7 := { stood := { row := fwinOneRow, standIns := [], harness := (true, "78d75ee4d19f0b88f353720c94b000b56890306192c981e03416b0f1852eabe5"), looks := false }, kinds := [], alts := [], laidByText := true, laidKinds := [.data, .data, .data], laidTests := true, laidLooks := .later }
def FwinOneCardSaid : Prop := Claim7.holds Tryd.pinned (.plain (OpenSpec.ofChange fwinOneSpec)) fwinOneCard

/-- THE TIED CARD OF 'graticulelaw21.FwinRanks'. -/
def fwinRanksCard : Claim7 := { stood := { row := fwinRanksRow, standIns := [], harness := (true, "78d75ee4d19f0b88f353720c94b000b56890306192c981e03416b0f1852eabe5"), looks := false }, kinds := [], alts := [], laidByText := true, laidKinds := [.data, .data, .data], laidTests := true, laidLooks := .later }
def FwinRanksCardSaid : Prop := Claim7.holds Tryd.pinned (.plain (OpenSpec.ofChange fwinRanksSpec)) fwinRanksCard

/-- THE TIED CARD OF 'graticulelaw21.FwinHits'. -/
def fwinHitsCard : Claim7 := { stood := { row := fwinHitsRow, standIns := [], harness := (true, "78d75ee4d19f0b88f353720c94b000b56890306192c981e03416b0f1852eabe5"), looks := false }, kinds := [], alts := [], laidByText := true, laidKinds := [.data, .data, .data], laidTests := true, laidLooks := .later }
def FwinHitsCardSaid : Prop := Claim7.holds Tryd.pinned (.plain (OpenSpec.ofChange fwinHitsSpec)) fwinHitsCard

/-- THE SECOND FORM's CARD OF 'graticulelaw21.FwinOne'. -/
def fwinOneUptoCard : Claim7 := { stood := { row := fwinOneUptoRow, standIns := [], harness := (true, "78d75ee4d19f0b88f353720c94b000b56890306192c981e03416b0f1852eabe5"), looks := false }, kinds := [], alts := [], laidByText := true, laidKinds := [.data, .data, .data], laidTests := true, laidLooks := .later }
def FwinOneUptoCardSaid : Prop := Claim7.holds Tryd.pinned (.plain (OpenSpec.upto fwinOneSpec)) fwinOneUptoCard

/-- THE SECOND FORM's CARD OF 'graticulelaw21.FwinRanks'. -/
def fwinRanksUptoCard : Claim7 := { stood := { row := fwinRanksUptoRow, standIns := [], harness := (true, "78d75ee4d19f0b88f353720c94b000b56890306192c981e03416b0f1852eabe5"), looks := false }, kinds := [], alts := [], laidByText := true, laidKinds := [.data, .data, .data], laidTests := true, laidLooks := .later }
def FwinRanksUptoCardSaid : Prop := Claim7.holds Tryd.pinned (.plain (OpenSpec.upto fwinRanksSpec)) fwinRanksUptoCard

/-- THE SECOND FORM's CARD OF 'graticulelaw21.FwinHits'. -/
def fwinHitsUptoCard : Claim7 := { stood := { row := fwinHitsUptoRow, standIns := [], harness := (true, "78d75ee4d19f0b88f353720c94b000b56890306192c981e03416b0f1852eabe5"), looks := false }, kinds := [], alts := [], laidByText := true, laidKinds := [.data, .data, .data], laidTests := true, laidLooks := .later }
def FwinHitsUptoCardSaid : Prop := Claim7.holds Tryd.pinned (.plain (OpenSpec.upto fwinHitsSpec)) fwinHitsUptoCard
end Rows
end Go.Proofs.YtgdkafbcchkplaaDoor
