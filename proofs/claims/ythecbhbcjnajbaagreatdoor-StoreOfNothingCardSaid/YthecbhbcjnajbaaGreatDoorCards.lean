/-
  DERIVED. GIVEN WITH THE SEED: THE CARDS: each row of YthecbhbcjnajbaaGreatDoorRows.lean that lists a variable, with what it lists TIED to the program's text (the seventh form; the later family's looks); each row that meets fmt, with fmt's text TOLD by the authors' own Lean function (tested against real Go, not proved from fmt's source: count such statements apart). THE CARD IS WHAT COUNTS. Prove the row's statement (the work); the ties are given (YthecbhbcjnajbaaGreatDoorTie.lean); close each card by the builder's one call (the guide's Derived/Test/ToyasCard.lean, 'card_holds'). Laid BY PROGRAM, IN A SANDBOX (cutbox-door.mjs). By AI agents, Wed Nov 11 2026. No macro, syntax, notation, axiom, sorry.
-/
import Derived.Test.YthecbhbcjnajbaaGreatDoorRows
import GoSem.ClaimSeven
namespace Go.Proofs.YthecbhbcjnajbaaGreatDoor
namespace Rows

/-- THE TIED CARD OF 'graticulelaw26.StoreOfNothing'. -/
def storeOfNothingCard : Claim7 := { stood := { row := storeOfNothingRow, standIns := [], harness := (true, "d3437c676199a45c40108efa749c80cdf5aaf84a013d9be8dcda0a86e474e85a"), looks := true }, kinds := [], alts := [], laidByText := true, laidKinds := [.data, .pinned], laidTests := true, laidLooks := .later }
def StoreOfNothingCardSaid : Prop := Claim7.holds Tryz.pinned (.plain (OpenSpec.ofChange storeOfNothingSpec)) storeOfNothingCard

/-- THE SECOND FORM's CARD OF 'graticulelaw26.StoreOfNothing'. -/
def storeOfNothingUptoCard : Claim7 := { stood := { row := storeOfNothingUptoRow, standIns := [], harness := (true, "d3437c676199a45c40108efa749c80cdf5aaf84a013d9be8dcda0a86e474e85a"), looks := true }, kinds := [], alts := [], laidByText := true, laidKinds := [.data, .pinned], laidTests := true, laidLooks := .later }
def StoreOfNothingUptoCardSaid : Prop := Claim7.holds Tryz.pinned (.plain (OpenSpec.upto storeOfNothingSpec)) storeOfNothingUptoCard
end Rows
end Go.Proofs.YthecbhbcjnajbaaGreatDoor
