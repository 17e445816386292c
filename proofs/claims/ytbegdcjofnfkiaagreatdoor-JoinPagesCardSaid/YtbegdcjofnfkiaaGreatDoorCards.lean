/-
  DERIVED. GIVEN WITH THE SEED: THE CARDS: each row of YtbegdcjofnfkiaaGreatDoorRows.lean that lists a variable, with what it lists TIED to the program's text (the seventh form; the later family's looks); each row that meets fmt, with fmt's text TOLD by the authors' own Lean function (tested against real Go, not proved from fmt's source: count such statements apart). THE CARD IS WHAT COUNTS. Prove the row's statement (the work); the ties are given (YtbegdcjofnfkiaaGreatDoorTie.lean); close each card by the builder's one call (the guide's Derived/Test/ToyasCard.lean, 'card_holds'). Laid BY PROGRAM, IN A SANDBOX (cutbox-door.mjs). By AI agents, Wed Nov 11 2026. No macro, syntax, notation, axiom, sorry.
-/
import Derived.Test.YtbegdcjofnfkiaaGreatDoorRows
import GoSem.ClaimSeven
namespace Go.Proofs.YtbegdcjofnfkiaaGreatDoor
namespace Rows

/-- THE TIED CARD OF 'sizarlaw51.JoinHoldsSpec'. -/
def joinHoldsSpecCard : Claim7 := { stood := { row := joinHoldsSpecRow, standIns := [], harness := (true, "1ceedf6b9118a04ae7cc9e34ed78a944fce2ca19ff9f188c01bbc72238f321db"), looks := true }, kinds := [], alts := [], laidByText := true, laidKinds := [.data], laidTests := true, laidLooks := .later }
def JoinHoldsSpecCardSaid : Prop := Claim7.holds Tryz.pinned (.plain (OpenSpec.ofChange joinHoldsSpecSpec)) joinHoldsSpecCard

/-- THE TIED CARD OF 'sizarlaw51.JoinRowsSpec'. -/
def joinRowsSpecCard : Claim7 := { stood := { row := joinRowsSpecRow, standIns := [], harness := (true, "1ceedf6b9118a04ae7cc9e34ed78a944fce2ca19ff9f188c01bbc72238f321db"), looks := true }, kinds := [], alts := [], laidByText := true, laidKinds := [.data], laidTests := true, laidLooks := .later }
def JoinRowsSpecCardSaid : Prop := Claim7.holds Tryz.pinned (.plain (OpenSpec.ofChange joinRowsSpecSpec)) joinRowsSpecCard

/-- THE TIED CARD OF 'sizarlaw51.JoinPages'. -/
def joinPagesCard : Claim7 := { stood := { row := joinPagesRow, standIns := [], harness := (true, "1ceedf6b9118a04ae7cc9e34ed78a944fce2ca19ff9f188c01bbc72238f321db"), looks := true }, kinds := [], alts := [], laidByText := true, laidKinds := [.data], laidTests := true, laidLooks := .later }
def JoinPagesCardSaid : Prop := Claim7.holds Tryz.pinned (.plain (OpenSpec.ofChange joinPagesSpec)) joinPagesCard

/-- THE SECOND FORM's CARD OF 'sizarlaw51.JoinHoldsSpec'. -/
def joinHoldsSpecUptoCard : Claim7 := { stood := { row := joinHoldsSpecUptoRow, standIns := [], harness := (true, "1ceedf6b9118a04ae7cc9e34ed78a944fce2ca19ff9f188c01bbc72238f321db"), looks := true }, kinds := [], alts := [], laidByText := true, laidKinds := [.data], laidTests := true, laidLooks := .later }
def JoinHoldsSpecUptoCardSaid : Prop := Claim7.holds Tryz.pinned (.plain (OpenSpec.upto joinHoldsSpecSpec)) joinHoldsSpecUptoCard

/-- THE SECOND FORM's CARD OF 'sizarlaw51.JoinRowsSpec'. -/
def joinRowsSpecUptoCard : Claim7 := { stood := { row := joinRowsSpecUptoRow, standIns := [], harness := (true, "1ceedf6b9118a04ae7cc9e34ed78a944fce2ca19ff9f188c01bbc72238f321db"), looks := true }, kinds := [], alts := [], laidByText := true, laidKinds := [.data], laidTests := true, laidLooks := .later }
def JoinRowsSpecUptoCardSaid : Prop := Claim7.holds Tryz.pinned (.plain (OpenSpec.upto joinRowsSpecSpec)) joinRowsSpecUptoCard

/-- THE SECOND FORM's CARD OF 'sizarlaw51.JoinPages'. -/
def joinPagesUptoCard : Claim7 := { stood := { row := joinPagesUptoRow, standIns := [], harness := (true, "1ceedf6b9118a04ae7cc9e34ed78a944fce2ca19ff9f188c01bbc72238f321db"), looks := true }, kinds := [], alts := [], laidByText := true, laidKinds := [.data], laidTests := true, laidLooks := .later }
def JoinPagesUptoCardSaid : Prop := Claim7.holds Tryz.pinned (.plain (OpenSpec.upto joinPagesSpec)) joinPagesUptoCard
end Rows
end Go.Proofs.YtbegdcjofnfkiaaGreatDoor
