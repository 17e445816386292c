/-
  DERIVED. GIVEN WITH THE SEED: THE CARDS: each row of YtbmbpannhncpjaaDoorRows.lean that lists a variable, with what it lists TIED to the program's text (the seventh form; the later family's looks); each row that meets fmt, with fmt's text TOLD by the authors' own Lean function (tested against real Go, not proved from fmt's source: count such statements apart). THE CARD IS WHAT COUNTS. Prove the row's statement (the work); the ties are given (YtbmbpannhncpjaaDoorTie.lean); close each card by the builder's one call (the guide's Derived/Test/ToyasCard.lean, 'card_holds'). Laid BY PROGRAM, IN A SANDBOX (cutbox-door.mjs). By AI agents, Wed Nov 11 2026. No macro, syntax, notation, axiom, sorry.
-/
import Derived.Test.YtbmbpannhncpjaaDoorRows
import GoSem.ClaimSeven
namespace Go.Proofs.YtbmbpannhncpjaaDoor
namespace Rows

/-- THE TIED CARD OF 'sizarlaw12.RulesHoldsSpec'. -/
def rulesHoldsSpecCard : Claim7 := { stood := { row := rulesHoldsSpecRow, standIns := [], harness := (true, "2fadb4b9a838f57294a20d8f5ec735aff9896364a9ddfdfb30d191a5aaac5261"), looks := false }, kinds := [], alts := [], laidByText := true, laidKinds := [.funcs], laidTests := true, laidLooks := .later }
def RulesHoldsSpecCardSaid : Prop := Claim7.holds Tryd.pinned (.plain (OpenSpec.ofChange rulesHoldsSpecSpec)) rulesHoldsSpecCard

/-- THE TIED CARD OF 'sizarlaw12.RulesListsSpec'. -/
def rulesListsSpecCard : Claim7 := { stood := { row := rulesListsSpecRow, standIns := [], harness := (true, "2fadb4b9a838f57294a20d8f5ec735aff9896364a9ddfdfb30d191a5aaac5261"), looks := false }, kinds := [], alts := [], laidByText := true, laidKinds := [.funcs], laidTests := true, laidLooks := .later }
def RulesListsSpecCardSaid : Prop := Claim7.holds Tryd.pinned (.plain (OpenSpec.ofChange rulesListsSpecSpec)) rulesListsSpecCard

/-- THE TIED CARD OF 'sizarlaw12.RulesBoolean'. -/
def rulesBooleanCard : Claim7 := { stood := { row := rulesBooleanRow, standIns := [], harness := (true, "2fadb4b9a838f57294a20d8f5ec735aff9896364a9ddfdfb30d191a5aaac5261"), looks := false }, kinds := [], alts := [], laidByText := true, laidKinds := [.funcs], laidTests := true, laidLooks := .later }
def RulesBooleanCardSaid : Prop := Claim7.holds Tryd.pinned (.plain (OpenSpec.ofChange rulesBooleanSpec)) rulesBooleanCard

/-- THE TIED CARD OF 'sizarlaw12.RulesMonotone'. -/
def rulesMonotoneCard : Claim7 := { stood := { row := rulesMonotoneRow, standIns := [], harness := (true, "2fadb4b9a838f57294a20d8f5ec735aff9896364a9ddfdfb30d191a5aaac5261"), looks := false }, kinds := [], alts := [], laidByText := true, laidKinds := [.funcs], laidTests := true, laidLooks := .later }
def RulesMonotoneCardSaid : Prop := Claim7.holds Tryd.pinned (.plain (OpenSpec.ofChange rulesMonotoneSpec)) rulesMonotoneCard

/-- THE TIED CARD OF 'sizarlaw12.RulesAtoms'. -/
def rulesAtomsCard : Claim7 := { stood := { row := rulesAtomsRow, standIns := [], harness := (true, "2fadb4b9a838f57294a20d8f5ec735aff9896364a9ddfdfb30d191a5aaac5261"), looks := false }, kinds := [], alts := [], laidByText := true, laidKinds := [.funcs], laidTests := true, laidLooks := .later }
def RulesAtomsCardSaid : Prop := Claim7.holds Tryd.pinned (.plain (OpenSpec.ofChange rulesAtomsSpec)) rulesAtomsCard

/-- THE TIED CARD OF 'sizarlaw12.RulesOthers'. -/
def rulesOthersCard : Claim7 := { stood := { row := rulesOthersRow, standIns := [], harness := (true, "2fadb4b9a838f57294a20d8f5ec735aff9896364a9ddfdfb30d191a5aaac5261"), looks := false }, kinds := [], alts := [], laidByText := true, laidKinds := [.funcs], laidTests := true, laidLooks := .later }
def RulesOthersCardSaid : Prop := Claim7.holds Tryd.pinned (.plain (OpenSpec.ofChange rulesOthersSpec)) rulesOthersCard

/-- THE TIED CARD OF 'sizarlaw12.RulesDual'. -/
def rulesDualCard : Claim7 := { stood := { row := rulesDualRow, standIns := [], harness := (true, "2fadb4b9a838f57294a20d8f5ec735aff9896364a9ddfdfb30d191a5aaac5261"), looks := false }, kinds := [], alts := [], laidByText := true, laidKinds := [.funcs], laidTests := true, laidLooks := .later }
def RulesDualCardSaid : Prop := Claim7.holds Tryd.pinned (.plain (OpenSpec.ofChange rulesDualSpec)) rulesDualCard

/-- THE SECOND FORM's CARD OF 'sizarlaw12.RulesHoldsSpec'. -/
def rulesHoldsSpecUptoCard : Claim7 := { stood := { row := rulesHoldsSpecUptoRow, standIns := [], harness := (true, "2fadb4b9a838f57294a20d8f5ec735aff9896364a9ddfdfb30d191a5aaac5261"), looks := false }, kinds := [], alts := [], laidByText := true, laidKinds := [.funcs], laidTests := true, laidLooks := .later }
def RulesHoldsSpecUptoCardSaid : Prop := Claim7.holds Tryd.pinned (.plain (OpenSpec.upto rulesHoldsSpecSpec)) rulesHoldsSpecUptoCard

/-- THE SECOND FORM's CARD OF 'sizarlaw12.RulesListsSpec'. -/
def rulesListsSpecUptoCard : Claim7 := { stood := { row := rulesListsSpecUptoRow, standIns := [], harness := (true, "2fadb4b9a838f57294a20d8f5ec735aff9896364a9ddfdfb30d191a5aaac5261"), looks := false }, kinds := [], alts := [], laidByText := true, laidKinds := [.funcs], laidTests := true, laidLooks := .later }
def RulesListsSpecUptoCardSaid : Prop := Claim7.holds Tryd.pinned (.plain (OpenSpec.upto rulesListsSpecSpec)) rulesListsSpecUptoCard

/-- THE SECOND FORM's CARD OF 'sizarlaw12.RulesBoolean'. -/
def rulesBooleanUptoCard : Claim7 := { stood := { row := rulesBooleanUptoRow, standIns := [], harness := (true, "2fadb4b9a838f57294a20d8f5ec735aff9896364a9ddfdfb30d191a5aaac5261"), looks := false }, kinds := [], alts := [], laidByText := true, laidKinds := [.funcs], laidTests := true, laidLooks := .later }
def RulesBooleanUptoCardSaid : Prop := Claim7.holds Tryd.pinned (.plain (OpenSpec.upto rulesBooleanSpec)) rulesBooleanUptoCard

/-- THE SECOND FORM's CARD OF 'sizarlaw12.RulesMonotone'. -/
def rulesMonotoneUptoCard : Claim7 := { stood := { row := rulesMonotoneUptoRow, standIns := [], harness := (true, "2fadb4b9a838f57294a20d8f5ec735aff9896364a9ddfdfb30d191a5aaac5261"), looks := false }, kinds := [], alts := [], laidByText := true, laidKinds := [.funcs], laidTests := true, laidLooks := .later }
def RulesMonotoneUptoCardSaid : Prop := Claim7.holds Tryd.pinned (.plain (OpenSpec.upto rulesMonotoneSpec)) rulesMonotoneUptoCard

/-- THE SECOND FORM's CARD OF 'sizarlaw12.RulesAtoms'. -/
def rulesAtomsUptoCard : Claim7 := { stood := { row := rulesAtomsUptoRow, standIns := [], harness := (true, "2fadb4b9a838f57294a20d8f5ec735aff9896364a9ddfdfb30d191a5aaac5261"), looks := false }, kinds := [], alts := [], laidByText := true, laidKinds := [.funcs], laidTests := true, laidLooks := .later }
def RulesAtomsUptoCardSaid : Prop := Claim7.holds Tryd.pinned (.plain (OpenSpec.upto rulesAtomsSpec)) rulesAtomsUptoCard

/-- THE SECOND FORM's CARD OF 'sizarlaw12.RulesOthers'. -/
def rulesOthersUptoCard : Claim7 := { stood := { row := rulesOthersUptoRow, standIns := [], harness := (true, "2fadb4b9a838f57294a20d8f5ec735aff9896364a9ddfdfb30d191a5aaac5261"), looks := false }, kinds := [], alts := [], laidByText := true, laidKinds := [.funcs], laidTests := true, laidLooks := .later }
def RulesOthersUptoCardSaid : Prop := Claim7.holds Tryd.pinned (.plain (OpenSpec.upto rulesOthersSpec)) rulesOthersUptoCard

/-- THE SECOND FORM's CARD OF 'sizarlaw12.RulesDual'. -/
def rulesDualUptoCard : Claim7 := { stood := { row := rulesDualUptoRow, standIns := [], harness := (true, "2fadb4b9a838f57294a20d8f5ec735aff9896364a9ddfdfb30d191a5aaac5261"), looks := false }, kinds := [], alts := [], laidByText := true, laidKinds := [.funcs], laidTests := true, laidLooks := .later }
def RulesDualUptoCardSaid : Prop := Claim7.holds Tryd.pinned (.plain (OpenSpec.upto rulesDualSpec)) rulesDualUptoCard
end Rows
end Go.Proofs.YtbmbpannhncpjaaDoor
