/-
  DERIVED. GIVEN WITH THE SEED: THE CARDS: each row of YtbegdcjofnfkiaaDoorRows.lean that lists a variable, with what it lists TIED to the program's text (the seventh form; the later family's looks); each row that meets fmt, with fmt's text TOLD by the authors' own Lean function (tested against real Go, not proved from fmt's source: count such statements apart). THE CARD IS WHAT COUNTS. Prove the row's statement (the work); the ties are given (YtbegdcjofnfkiaaDoorTie.lean); close each card by the builder's one call (the guide's Derived/Test/ToyasCard.lean, 'card_holds'). Laid BY PROGRAM, IN A SANDBOX (cutbox-door.mjs). By AI agents, Wed Nov 11 2026. No macro, syntax, notation, axiom, sorry.
-/
import Derived.Test.YtbegdcjofnfkiaaDoorRows
import GoSem.ClaimSeven
namespace Go.Proofs.YtbegdcjofnfkiaaDoor
namespace Rows

/-- THE TIED CARD OF 'sizarlaw51.JoinAnswers'. -/
def joinAnswersCard : Claim7 := { stood := { row := joinAnswersRow, standIns := [], harness := (true, "1e9fcf27bcbe6cba3813352d19c4755a50d91285b734cca80f3d612da8057a76"), looks := false }, kinds := [], alts := [], laidByText := true, laidKinds := [.data], laidTests := true, laidLooks := .later }
def JoinAnswersCardSaid : Prop := Claim7.holds Tryd.pinned (.plain (OpenSpec.ofChange joinAnswersSpec)) joinAnswersCard

/-- THE TIED CARD OF 'sizarlaw51.JoinFewer'. -/
def joinFewerCard : Claim7 := { stood := { row := joinFewerRow, standIns := [], harness := (true, "1e9fcf27bcbe6cba3813352d19c4755a50d91285b734cca80f3d612da8057a76"), looks := false }, kinds := [], alts := [], laidByText := true, laidKinds := [.data], laidTests := true, laidLooks := .later }
def JoinFewerCardSaid : Prop := Claim7.holds Tryd.pinned (.plain (OpenSpec.ofChange joinFewerSpec)) joinFewerCard

/-- THE TIED CARD OF 'sizarlaw51.JoinPast'. -/
def joinPastCard : Claim7 := { stood := { row := joinPastRow, standIns := [], harness := (true, "1e9fcf27bcbe6cba3813352d19c4755a50d91285b734cca80f3d612da8057a76"), looks := false }, kinds := [], alts := [], laidByText := true, laidKinds := [.data], laidTests := true, laidLooks := .later }
def JoinPastCardSaid : Prop := Claim7.holds Tryd.pinned (.plain (OpenSpec.ofChange joinPastSpec)) joinPastCard

/-- THE TIED CARD OF 'sizarlaw51.JoinTurned'. -/
def joinTurnedCard : Claim7 := { stood := { row := joinTurnedRow, standIns := [], harness := (true, "1e9fcf27bcbe6cba3813352d19c4755a50d91285b734cca80f3d612da8057a76"), looks := false }, kinds := [], alts := [], laidByText := true, laidKinds := [.data], laidTests := true, laidLooks := .later }
def JoinTurnedCardSaid : Prop := Claim7.holds Tryd.pinned (.plain (OpenSpec.ofChange joinTurnedSpec)) joinTurnedCard

/-- THE SECOND FORM's CARD OF 'sizarlaw51.JoinAnswers'. -/
def joinAnswersUptoCard : Claim7 := { stood := { row := joinAnswersUptoRow, standIns := [], harness := (true, "1e9fcf27bcbe6cba3813352d19c4755a50d91285b734cca80f3d612da8057a76"), looks := false }, kinds := [], alts := [], laidByText := true, laidKinds := [.data], laidTests := true, laidLooks := .later }
def JoinAnswersUptoCardSaid : Prop := Claim7.holds Tryd.pinned (.plain (OpenSpec.upto joinAnswersSpec)) joinAnswersUptoCard

/-- THE SECOND FORM's CARD OF 'sizarlaw51.JoinFewer'. -/
def joinFewerUptoCard : Claim7 := { stood := { row := joinFewerUptoRow, standIns := [], harness := (true, "1e9fcf27bcbe6cba3813352d19c4755a50d91285b734cca80f3d612da8057a76"), looks := false }, kinds := [], alts := [], laidByText := true, laidKinds := [.data], laidTests := true, laidLooks := .later }
def JoinFewerUptoCardSaid : Prop := Claim7.holds Tryd.pinned (.plain (OpenSpec.upto joinFewerSpec)) joinFewerUptoCard

/-- THE SECOND FORM's CARD OF 'sizarlaw51.JoinPast'. -/
def joinPastUptoCard : Claim7 := { stood := { row := joinPastUptoRow, standIns := [], harness := (true, "1e9fcf27bcbe6cba3813352d19c4755a50d91285b734cca80f3d612da8057a76"), looks := false }, kinds := [], alts := [], laidByText := true, laidKinds := [.data], laidTests := true, laidLooks := .later }
def JoinPastUptoCardSaid : Prop := Claim7.holds Tryd.pinned (.plain (OpenSpec.upto joinPastSpec)) joinPastUptoCard

/-- THE SECOND FORM's CARD OF 'sizarlaw51.JoinTurned'. -/
def joinTurnedUptoCard : Claim7 := { stood := { row := joinTurnedUptoRow, standIns := [], harness := (true, "1e9fcf27bcbe6cba3813352d19c4755a50d91285b734cca80f3d612da8057a76"), looks := false }, kinds := [], alts := [], laidByText := true, laidKinds := [.data], laidTests := true, laidLooks := .later }
def JoinTurnedUptoCardSaid : Prop := Claim7.holds Tryd.pinned (.plain (OpenSpec.upto joinTurnedSpec)) joinTurnedUptoCard
end Rows
end Go.Proofs.YtbegdcjofnfkiaaDoor
