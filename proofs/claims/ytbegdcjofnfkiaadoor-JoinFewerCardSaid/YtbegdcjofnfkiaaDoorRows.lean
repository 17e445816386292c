/-
  NARROWER THAN 'FOR EVERY INPUT', by the rows' own cells (each row's printed sentence says how): JoinAnswers: laid · JoinFewer: laid · JoinPast: laid · JoinTurned: laid.
  DERIVED. THE GIVEN ROWS OF THIS SEAT. 4 by the template 'for every input the law returns true; each argument reads behind the call as it read before'; 0 by the template 'total and deterministic' (their statements: YtbegdcjofnfkiaaDoorTotals.lean).
  GIVEN WITH THE SEED: the statements are not yours to turn. If you find one false, say at which input.
  Laid BY PROGRAM, IN A SANDBOX (cutbox-rows.mjs): the forced cells as the released guide's own fill.sh prints them over the translation 8277e56e98b6bcfb… (all of the seat's roots in one cut). By AI agents, Wed Nov 11 2026. No macro, syntax, notation, axiom, sorry.
-/
import Derived.Test.YtbegdcjofnfkiaaDoorChecked
import GoSem.Claim
import GoSem.ClaimJoined
import GoSem.ClaimMapViews
import Derived.JoinedTies
import Derived.KernelRfl
namespace Go.Proofs.YtbegdcjofnfkiaaDoor
/- THE CELL 'sum', in the pinned program and in every row, IS THE sha256 OF THE DUMP (.gsa) THAT YtbegdcjofnfkiaaDoorProg.lean LOADS. Nothing in Lean hashes anything: it is a label: what it is worth is what the hold of that sum in a sandbox is worth. -/
noncomputable def Tryd.pinned : Pinned := { name := "ytbegdcjofnfkiaadoor", sum := "8277e56e98b6bcfb4c3af651d044eb3ab2e4d100ae1acd77bf2d2c469d49c1c7", checked := Tryd.checked }
namespace Rows
def none {H : Type} : Left H := { results := [], args := [] }

/- WHAT THE LISTED PACKAGE-LEVEL VARIABLES READ AS WHEN THE CALL BEGINS. Each datum BY PROGRAM (the guide's laid-datum.mjs) off the statement by which the dump's own 'gosem.cut.vars' lays the variable. In a bare row this is a premise. The card (YtbegdcjofnfkiaaDoorCards.lean) ties it to the program's text. -/
def laid_sizar_query_kindWords {H : Type} : DataW H := .slice [.lit (.string [99, 111, 117, 114, 115, 101]), .lit (.string [115, 97, 109, 101]), .lit (.string [112, 114, 111, 103, 114, 97, 109, 109, 101]), .lit (.string [115, 121, 115, 116, 101, 109]), .lit (.string [103, 114, 97, 100, 101]), .lit (.string [104, 111, 108, 100]), .lit (.string [114, 117, 108, 101]), .lit (.string [115, 101, 97, 116]), .lit (.string [99, 108, 97, 115, 104]), .lit (.string [108, 111, 97, 100]), .lit (.string [103, 114, 111, 117, 112]), .lit (.string [110, 117, 109, 98, 101, 114, 115])] []

/-- 'sizarlaw51.JoinAnswers': WHATEVER THE INPUT: true; the input reads as it did. -/
def joinAnswersSpec : ChangeSpec := { name := "joinAnswers", fn := fun _ => fun
  | [d1, d2, d3] => { results := [.lit (.bool true)], args := [d1, d2, d3] }
  | _ => none }
def joinAnswersRow : OpenClaim := { program := "ytbegdcjofnfkiaadoor", sum := "8277e56e98b6bcfb4c3af651d044eb3ab2e4d100ae1acd77bf2d2c469d49c1c7", func := "sizar/sizarlaw51.JoinAnswers", spec := "joinAnswers", inPlace := ["internal/bytealg.IndexByteString"], unfollowed := true, recurses := true, named := ["sizar/query.kindWords"], plainKeys := false, apart := false, laid := [("sizar/query.kindWords", laid_sizar_query_kindWords)] }
def JoinAnswersSaid : Prop := joinAnswersRow.holds Tryd.pinned (OpenSpec.ofChange joinAnswersSpec)

/-- ITS FALSE NEIGHBOUR: 'it returns false'. Refute it at one input. -/
def joinAnswersWrong : ChangeSpec := { name := "joinAnswers", fn := fun _ => fun
  | [d1, d2, d3] => { results := [.lit (.bool false)], args := [d1, d2, d3] }
  | _ => none }
def JoinAnswersWrongFalsely : Prop := joinAnswersRow.holds Tryd.pinned (OpenSpec.ofChange joinAnswersWrong)

/-- 'sizarlaw51.JoinFewer': WHATEVER THE INPUT: true; the input reads as it did. -/
def joinFewerSpec : ChangeSpec := { name := "joinFewer", fn := fun _ => fun
  | [d1, d2, d3, d4] => { results := [.lit (.bool true)], args := [d1, d2, d3, d4] }
  | _ => none }
def joinFewerRow : OpenClaim := { program := "ytbegdcjofnfkiaadoor", sum := "8277e56e98b6bcfb4c3af651d044eb3ab2e4d100ae1acd77bf2d2c469d49c1c7", func := "sizar/sizarlaw51.JoinFewer", spec := "joinFewer", inPlace := ["internal/bytealg.IndexByteString"], unfollowed := true, recurses := true, named := ["sizar/query.kindWords"], plainKeys := false, apart := false, laid := [("sizar/query.kindWords", laid_sizar_query_kindWords)] }
def JoinFewerSaid : Prop := joinFewerRow.holds Tryd.pinned (OpenSpec.ofChange joinFewerSpec)

/-- ITS FALSE NEIGHBOUR: 'it returns false'. Refute it at one input. -/
def joinFewerWrong : ChangeSpec := { name := "joinFewer", fn := fun _ => fun
  | [d1, d2, d3, d4] => { results := [.lit (.bool false)], args := [d1, d2, d3, d4] }
  | _ => none }
def JoinFewerWrongFalsely : Prop := joinFewerRow.holds Tryd.pinned (OpenSpec.ofChange joinFewerWrong)

/-- 'sizarlaw51.JoinPast': WHATEVER THE INPUT: true; the input reads as it did. -/
def joinPastSpec : ChangeSpec := { name := "joinPast", fn := fun _ => fun
  | [d1, d2, d3] => { results := [.lit (.bool true)], args := [d1, d2, d3] }
  | _ => none }
def joinPastRow : OpenClaim := { program := "ytbegdcjofnfkiaadoor", sum := "8277e56e98b6bcfb4c3af651d044eb3ab2e4d100ae1acd77bf2d2c469d49c1c7", func := "sizar/sizarlaw51.JoinPast", spec := "joinPast", inPlace := ["internal/bytealg.IndexByteString"], unfollowed := true, recurses := true, named := ["sizar/query.kindWords"], plainKeys := false, apart := false, laid := [("sizar/query.kindWords", laid_sizar_query_kindWords)] }
def JoinPastSaid : Prop := joinPastRow.holds Tryd.pinned (OpenSpec.ofChange joinPastSpec)

/-- ITS FALSE NEIGHBOUR: 'it returns false'. Refute it at one input. -/
def joinPastWrong : ChangeSpec := { name := "joinPast", fn := fun _ => fun
  | [d1, d2, d3] => { results := [.lit (.bool false)], args := [d1, d2, d3] }
  | _ => none }
def JoinPastWrongFalsely : Prop := joinPastRow.holds Tryd.pinned (OpenSpec.ofChange joinPastWrong)

/-- 'sizarlaw51.JoinTurned': WHATEVER THE INPUT: true; the input reads as it did. -/
def joinTurnedSpec : ChangeSpec := { name := "joinTurned", fn := fun _ => fun
  | [d1, d2, d3] => { results := [.lit (.bool true)], args := [d1, d2, d3] }
  | _ => none }
def joinTurnedRow : OpenClaim := { program := "ytbegdcjofnfkiaadoor", sum := "8277e56e98b6bcfb4c3af651d044eb3ab2e4d100ae1acd77bf2d2c469d49c1c7", func := "sizar/sizarlaw51.JoinTurned", spec := "joinTurned", inPlace := ["internal/bytealg.IndexByteString"], unfollowed := true, recurses := true, named := ["sizar/query.kindWords"], plainKeys := false, apart := false, laid := [("sizar/query.kindWords", laid_sizar_query_kindWords)] }
def JoinTurnedSaid : Prop := joinTurnedRow.holds Tryd.pinned (OpenSpec.ofChange joinTurnedSpec)

/-- ITS FALSE NEIGHBOUR: 'it returns false'. Refute it at one input. -/
def joinTurnedWrong : ChangeSpec := { name := "joinTurned", fn := fun _ => fun
  | [d1, d2, d3] => { results := [.lit (.bool false)], args := [d1, d2, d3] }
  | _ => none }
def JoinTurnedWrongFalsely : Prop := joinTurnedRow.holds Tryd.pinned (OpenSpec.ofChange joinTurnedWrong)

/- THE SECOND FORM. 'bulk': how many values and letters a reading holds, each counted each time it is reached (what is shared counts as often as it is met; a slice's spare places count too). A statement '..UptoSaid' is the law's where the arguments, and the package variables that the reading takes, are together of bulk at most 1048576: NARROWER than '..Said'. Prove '..Said' where nothing that the law and all that it calls make is longer than what came in: it says more and counts as full. Else prove '..UptoSaid'. A law counts once. -/
mutual
def uptoBulk {H : Type} : DataW H → Nat
  | .lit (.string bytes) => bytes.length + 1
  | .lit _ => 1
  | .nil => 1
  | .ptr d => uptoBulk d + 1
  | .slice elems spare => uptoBulkAll elems + uptoBulkAll spare + 1
  | .agg parts => uptoBulkAll parts + 1
  | .iface _ d => uptoBulk d + 1
  | .map entries => uptoBulkEntries entries + 1
  | .held _ => 1
def uptoBulkAll {H : Type} : List (DataW H) → Nat
  | [] => 0
  | d :: r => uptoBulk d + uptoBulkAll r
def uptoBulkEntries {H : Type} : List (Lit × DataW H) → Nat
  | [] => 0
  | x :: r => uptoBulkEntry x + uptoBulkEntries r
def uptoBulkEntry {H : Type} : Lit × DataW H → Nat
  | (.string bytes, d) => bytes.length + uptoBulk d + 1
  | (_, d) => uptoBulk d + 1
 end
def uptoSmall : (H : Type) → List (DataW H) → Bool := fun _ ds => decide (uptoBulkAll ds ≤ 1048576)
def OpenSpec.upto (s : _root_.Go.ChangeSpec) : _root_.Go.OpenSpec := { _root_.Go.OpenSpec.ofChange s with cond := some uptoSmall }

/-- 'sizarlaw51.JoinAnswers', WHERE WHAT IT READS IS OF BULK AT MOST 1048576: true; the input reads as it did. -/
def joinAnswersUptoRow : OpenClaim := { program := "ytbegdcjofnfkiaadoor", sum := "8277e56e98b6bcfb4c3af651d044eb3ab2e4d100ae1acd77bf2d2c469d49c1c7", func := "sizar/sizarlaw51.JoinAnswers", spec := "joinAnswers", inPlace := ["internal/bytealg.IndexByteString"], unfollowed := true, recurses := true, named := ["sizar/query.kindWords"], plainKeys := false, apart := false, laid := [("sizar/query.kindWords", laid_sizar_query_kindWords)], narrowed := true }
def JoinAnswersUptoSaid : Prop := joinAnswersUptoRow.holds Tryd.pinned (OpenSpec.upto joinAnswersSpec)

/-- 'sizarlaw51.JoinFewer', WHERE WHAT IT READS IS OF BULK AT MOST 1048576: true; the input reads as it did. -/
def joinFewerUptoRow : OpenClaim := { program := "ytbegdcjofnfkiaadoor", sum := "8277e56e98b6bcfb4c3af651d044eb3ab2e4d100ae1acd77bf2d2c469d49c1c7", func := "sizar/sizarlaw51.JoinFewer", spec := "joinFewer", inPlace := ["internal/bytealg.IndexByteString"], unfollowed := true, recurses := true, named := ["sizar/query.kindWords"], plainKeys := false, apart := false, laid := [("sizar/query.kindWords", laid_sizar_query_kindWords)], narrowed := true }
def JoinFewerUptoSaid : Prop := joinFewerUptoRow.holds Tryd.pinned (OpenSpec.upto joinFewerSpec)

/-- 'sizarlaw51.JoinPast', WHERE WHAT IT READS IS OF BULK AT MOST 1048576: true; the input reads as it did. -/
def joinPastUptoRow : OpenClaim := { program := "ytbegdcjofnfkiaadoor", sum := "8277e56e98b6bcfb4c3af651d044eb3ab2e4d100ae1acd77bf2d2c469d49c1c7", func := "sizar/sizarlaw51.JoinPast", spec := "joinPast", inPlace := ["internal/bytealg.IndexByteString"], unfollowed := true, recurses := true, named := ["sizar/query.kindWords"], plainKeys := false, apart := false, laid := [("sizar/query.kindWords", laid_sizar_query_kindWords)], narrowed := true }
def JoinPastUptoSaid : Prop := joinPastUptoRow.holds Tryd.pinned (OpenSpec.upto joinPastSpec)

/-- 'sizarlaw51.JoinTurned', WHERE WHAT IT READS IS OF BULK AT MOST 1048576: true; the input reads as it did. -/
def joinTurnedUptoRow : OpenClaim := { program := "ytbegdcjofnfkiaadoor", sum := "8277e56e98b6bcfb4c3af651d044eb3ab2e4d100ae1acd77bf2d2c469d49c1c7", func := "sizar/sizarlaw51.JoinTurned", spec := "joinTurned", inPlace := ["internal/bytealg.IndexByteString"], unfollowed := true, recurses := true, named := ["sizar/query.kindWords"], plainKeys := false, apart := false, laid := [("sizar/query.kindWords", laid_sizar_query_kindWords)], narrowed := true }
def JoinTurnedUptoSaid : Prop := joinTurnedUptoRow.holds Tryd.pinned (OpenSpec.upto joinTurnedSpec)

end Rows
end Go.Proofs.YtbegdcjofnfkiaaDoor
