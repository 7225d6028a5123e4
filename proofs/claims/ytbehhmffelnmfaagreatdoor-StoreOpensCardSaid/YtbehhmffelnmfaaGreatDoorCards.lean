/-
  DERIVED. GIVEN WITH THE SEED: THE CARDS: each row of YtbehhmffelnmfaaGreatDoorRows.lean that lists a variable, with what it lists TIED to the program's text (the seventh form; the later family's looks); each row that meets fmt, with fmt's text TOLD by the authors' own Lean function (tested against real Go, not proved from fmt's source: count such statements apart). THE CARD IS WHAT COUNTS. Prove the row's statement (the work); the ties are given (YtbehhmffelnmfaaGreatDoorTie.lean); close each card by the builder's one call (the guide's Derived/Test/ToyasCard.lean, 'card_holds'). Laid BY PROGRAM, IN A SANDBOX (cutbox-door.mjs). By AI agents, Wed Nov 11 2026. No macro, syntax, notation, axiom, sorry.
-/
import Derived.Test.YtbehhmffelnmfaaGreatDoorRows
import GoSem.ClaimSeven
namespace Go.Proofs.YtbehhmffelnmfaaGreatDoor
namespace Rows

/-- THE TIED CARD OF 'graticulelaw26.StoreFull'. -/
def storeFullCard : Claim7 := { stood := { row := storeFullRow, standIns := [], harness := (true, "b13586c665a0d2d4f8aad759d18df81f067e5e5543140a9fa5b026bff950c0c7"), looks := true }, kinds := [], alts := [], laidByText := true, laidKinds := [.data, .pinned], laidTests := true, laidLooks := .later }
def StoreFullCardSaid : Prop := Claim7.holds Tryz.pinned (.plain (OpenSpec.ofChange storeFullSpec)) storeFullCard

/-- THE TIED CARD OF 'graticulelaw26.StoreOfNothing'. -/
def storeOfNothingCard : Claim7 := { stood := { row := storeOfNothingRow, standIns := [], harness := (true, "b13586c665a0d2d4f8aad759d18df81f067e5e5543140a9fa5b026bff950c0c7"), looks := true }, kinds := [], alts := [], laidByText := true, laidKinds := [.data, .pinned], laidTests := true, laidLooks := .later }
def StoreOfNothingCardSaid : Prop := Claim7.holds Tryz.pinned (.plain (OpenSpec.ofChange storeOfNothingSpec)) storeOfNothingCard

/-- THE TIED CARD OF 'graticulelaw26.StoreOpens'. -/
def storeOpensCard : Claim7 := { stood := { row := storeOpensRow, standIns := [], harness := (true, "b13586c665a0d2d4f8aad759d18df81f067e5e5543140a9fa5b026bff950c0c7"), looks := true }, kinds := [], alts := [], laidByText := true, laidKinds := [.data, .pinned], laidTests := true, laidLooks := .later }
def StoreOpensCardSaid : Prop := Claim7.holds Tryz.pinned (.plain (OpenSpec.ofChange storeOpensSpec)) storeOpensCard

/-- THE SECOND FORM's CARD OF 'graticulelaw26.StoreFull'. -/
def storeFullUptoCard : Claim7 := { stood := { row := storeFullUptoRow, standIns := [], harness := (true, "b13586c665a0d2d4f8aad759d18df81f067e5e5543140a9fa5b026bff950c0c7"), looks := true }, kinds := [], alts := [], laidByText := true, laidKinds := [.data, .pinned], laidTests := true, laidLooks := .later }
def StoreFullUptoCardSaid : Prop := Claim7.holds Tryz.pinned (.plain (OpenSpec.upto storeFullSpec)) storeFullUptoCard

/-- THE SECOND FORM's CARD OF 'graticulelaw26.StoreOfNothing'. -/
def storeOfNothingUptoCard : Claim7 := { stood := { row := storeOfNothingUptoRow, standIns := [], harness := (true, "b13586c665a0d2d4f8aad759d18df81f067e5e5543140a9fa5b026bff950c0c7"), looks := true }, kinds := [], alts := [], laidByText := true, laidKinds := [.data, .pinned], laidTests := true, laidLooks := .later }
def StoreOfNothingUptoCardSaid : Prop := Claim7.holds Tryz.pinned (.plain (OpenSpec.upto storeOfNothingSpec)) storeOfNothingUptoCard

/-- THE SECOND FORM's CARD OF 'graticulelaw26.StoreOpens'. -/
def storeOpensUptoCard : Claim7 := { stood := { row := storeOpensUptoRow, standIns := [], harness := (true, "b13586c665a0d2d4f8aad759d18df81f067e5e5543140a9fa5b026bff950c0c7"), looks := true }, kinds := [], alts := [], laidByText := true, laidKinds := [.data, .pinned], laidTests := true, laidLooks := .later }
def StoreOpensUptoCardSaid : Prop := Claim7.holds Tryz.pinned (.plain (OpenSpec.upto storeOpensSpec)) storeOpensUptoCard
end Rows
end Go.Proofs.YtbehhmffelnmfaaGreatDoor
