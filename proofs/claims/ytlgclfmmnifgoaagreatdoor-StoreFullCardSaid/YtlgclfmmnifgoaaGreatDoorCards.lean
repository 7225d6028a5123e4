/-
  DERIVED. GIVEN WITH THE SEED: THE CARDS: each row of YtlgclfmmnifgoaaGreatDoorRows.lean that lists a variable, with what it lists TIED to the program's text (the seventh form; the later family's looks); each row that meets fmt, with fmt's text TOLD by the authors' own Lean function (tested against real Go, not proved from fmt's source: count such statements apart). THE CARD IS WHAT COUNTS. Prove the row's statement (the work); the ties are given (YtlgclfmmnifgoaaGreatDoorTie.lean); close each card by the builder's one call (the guide's Derived/Test/ToyasCard.lean, 'card_holds'). Laid BY PROGRAM, IN A SANDBOX (cutbox-door.mjs). By AI agents, Wed Nov 11 2026. No macro, syntax, notation, axiom, sorry.
-/
import Derived.Test.YtlgclfmmnifgoaaGreatDoorRows
import GoSem.ClaimSeven
namespace Go.Proofs.YtlgclfmmnifgoaaGreatDoor
namespace Rows

/-- THE TIED CARD OF 'graticulelaw26.StoreFull'. -/
def storeFullCard : Claim7 := { stood := { row := storeFullRow, standIns := [], harness := (true, "d2865280116c3f42fea472bfce22fb4d5db56a4ca9559c380ea8ea1ef6c00b0c"), looks := true }, kinds := [], alts := [], laidByText := true, laidKinds := [.data, .pinned], laidTests := true, laidLooks := .later }
def StoreFullCardSaid : Prop := Claim7.holds Tryz.pinned (.plain (OpenSpec.ofChange storeFullSpec)) storeFullCard

/-- THE SECOND FORM's CARD OF 'graticulelaw26.StoreFull'. -/
def storeFullUptoCard : Claim7 := { stood := { row := storeFullUptoRow, standIns := [], harness := (true, "d2865280116c3f42fea472bfce22fb4d5db56a4ca9559c380ea8ea1ef6c00b0c"), looks := true }, kinds := [], alts := [], laidByText := true, laidKinds := [.data, .pinned], laidTests := true, laidLooks := .later }
def StoreFullUptoCardSaid : Prop := Claim7.holds Tryz.pinned (.plain (OpenSpec.upto storeFullSpec)) storeFullUptoCard
end Rows
end Go.Proofs.YtlgclfmmnifgoaaGreatDoor
