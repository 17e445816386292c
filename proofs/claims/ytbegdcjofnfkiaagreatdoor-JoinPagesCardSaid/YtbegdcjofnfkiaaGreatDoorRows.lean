/-
  NARROWER THAN 'FOR EVERY INPUT', by the rows' own cells (each row's printed sentence says how): JoinHoldsSpec: laid · JoinRowsSpec: laid · JoinPages: laid.
  DERIVED. THE GIVEN ROWS OF THIS SEAT. 3 by the template 'for every input the law returns true; each argument reads behind the call as it read before'; 0 by the template 'total and deterministic' (their statements: YtbegdcjofnfkiaaGreatDoorTotals.lean).
  GIVEN WITH THE SEED: the statements are not yours to turn. If you find one false, say at which input.
  Laid BY PROGRAM, IN A SANDBOX (cutbox-rows.mjs): the forced cells as the released guide's own fill.sh prints them over the translation 35193b646bf1d055… (all of the seat's roots in one cut). By AI agents, Wed Nov 11 2026. No macro, syntax, notation, axiom, sorry.
-/
import Derived.Test.YtbegdcjofnfkiaaGreatDoorChecked
import GoSem.Claim
import GoSem.ClaimJoined
import GoSem.ClaimMapViews
import Derived.JoinedTies
import Derived.KernelRfl
namespace Go.Proofs.YtbegdcjofnfkiaaGreatDoor
/- THE CELL 'sum', in the pinned program and in every row, IS THE sha256 OF THE DUMP (.gsa) THAT YtbegdcjofnfkiaaGreatDoorProg.lean LOADS. Nothing in Lean hashes anything: it is a label: what it is worth is what the hold of that sum in a sandbox is worth. -/
noncomputable def Tryz.pinned : Pinned := { name := "ytbegdcjofnfkiaagreatdoor", sum := "35193b646bf1d05596233c41ff0f9253f0859289e2582482dc2c4d12d4e59c9a", checked := Tryz.checked }
namespace Rows
def none {H : Type} : Left H := { results := [], args := [] }

/- WHAT THE LISTED PACKAGE-LEVEL VARIABLES READ AS WHEN THE CALL BEGINS. Each datum BY PROGRAM (the guide's laid-datum.mjs) off the statement by which the dump's own 'gosem.cut.vars' lays the variable. In a bare row this is a premise. The card (YtbegdcjofnfkiaaGreatDoorCards.lean) ties it to the program's text. -/
def laid_sizar_query_kindWords {H : Type} : DataW H := .slice [.lit (.string [99, 111, 117, 114, 115, 101]), .lit (.string [115, 97, 109, 101]), .lit (.string [112, 114, 111, 103, 114, 97, 109, 109, 101]), .lit (.string [115, 121, 115, 116, 101, 109]), .lit (.string [103, 114, 97, 100, 101]), .lit (.string [104, 111, 108, 100]), .lit (.string [114, 117, 108, 101]), .lit (.string [115, 101, 97, 116]), .lit (.string [99, 108, 97, 115, 104]), .lit (.string [108, 111, 97, 100]), .lit (.string [103, 114, 111, 117, 112]), .lit (.string [110, 117, 109, 98, 101, 114, 115])] []

/-- 'sizarlaw51.JoinHoldsSpec': WHATEVER THE INPUT: true; the input reads as it did. -/
def joinHoldsSpecSpec : ChangeSpec := { name := "joinHoldsSpec", fn := fun _ => fun
  | [d1, d2, d3] => { results := [.lit (.bool true)], args := [d1, d2, d3] }
  | _ => none }
def joinHoldsSpecRow : OpenClaim := { program := "ytbegdcjofnfkiaagreatdoor", sum := "35193b646bf1d05596233c41ff0f9253f0859289e2582482dc2c4d12d4e59c9a", func := "sizar/sizarlaw51.JoinHoldsSpec", spec := "joinHoldsSpec", inPlace := ["internal/bytealg.IndexByteString"], unfollowed := true, recurses := true, named := ["sizar/query.kindWords"], plainKeys := false, apart := false, laid := [("sizar/query.kindWords", laid_sizar_query_kindWords)] }
def JoinHoldsSpecSaid : Prop := joinHoldsSpecRow.holds Tryz.pinned (OpenSpec.ofChange joinHoldsSpecSpec)

/-- ITS FALSE NEIGHBOUR: 'it returns false'. Refute it at one input. -/
def joinHoldsSpecWrong : ChangeSpec := { name := "joinHoldsSpec", fn := fun _ => fun
  | [d1, d2, d3] => { results := [.lit (.bool false)], args := [d1, d2, d3] }
  | _ => none }
def JoinHoldsSpecWrongFalsely : Prop := joinHoldsSpecRow.holds Tryz.pinned (OpenSpec.ofChange joinHoldsSpecWrong)

/-- 'sizarlaw51.JoinRowsSpec': WHATEVER THE INPUT: true; the input reads as it did. -/
def joinRowsSpecSpec : ChangeSpec := { name := "joinRowsSpec", fn := fun _ => fun
  | [d1, d2] => { results := [.lit (.bool true)], args := [d1, d2] }
  | _ => none }
def joinRowsSpecRow : OpenClaim := { program := "ytbegdcjofnfkiaagreatdoor", sum := "35193b646bf1d05596233c41ff0f9253f0859289e2582482dc2c4d12d4e59c9a", func := "sizar/sizarlaw51.JoinRowsSpec", spec := "joinRowsSpec", inPlace := ["internal/bytealg.IndexByteString"], unfollowed := true, recurses := true, named := ["sizar/query.kindWords"], plainKeys := false, apart := false, laid := [("sizar/query.kindWords", laid_sizar_query_kindWords)] }
def JoinRowsSpecSaid : Prop := joinRowsSpecRow.holds Tryz.pinned (OpenSpec.ofChange joinRowsSpecSpec)

/-- ITS FALSE NEIGHBOUR: 'it returns false'. Refute it at one input. -/
def joinRowsSpecWrong : ChangeSpec := { name := "joinRowsSpec", fn := fun _ => fun
  | [d1, d2] => { results := [.lit (.bool false)], args := [d1, d2] }
  | _ => none }
def JoinRowsSpecWrongFalsely : Prop := joinRowsSpecRow.holds Tryz.pinned (OpenSpec.ofChange joinRowsSpecWrong)

/-- 'sizarlaw51.JoinPages': WHATEVER THE INPUT: true; the input reads as it did. -/
def joinPagesSpec : ChangeSpec := { name := "joinPages", fn := fun _ => fun
  | [d1, d2] => { results := [.lit (.bool true)], args := [d1, d2] }
  | _ => none }
def joinPagesRow : OpenClaim := { program := "ytbegdcjofnfkiaagreatdoor", sum := "35193b646bf1d05596233c41ff0f9253f0859289e2582482dc2c4d12d4e59c9a", func := "sizar/sizarlaw51.JoinPages", spec := "joinPages", inPlace := ["internal/bytealg.IndexByteString", "slices.overlaps[sizar/api.Fact]", "slices.overlaps[int]"], unfollowed := true, recurses := true, named := ["sizar/query.kindWords"], plainKeys := false, apart := false, laid := [("sizar/query.kindWords", laid_sizar_query_kindWords)] }
def JoinPagesSaid : Prop := joinPagesRow.holds Tryz.pinned (OpenSpec.ofChange joinPagesSpec)

/-- ITS FALSE NEIGHBOUR: 'it returns false'. Refute it at one input. -/
def joinPagesWrong : ChangeSpec := { name := "joinPages", fn := fun _ => fun
  | [d1, d2] => { results := [.lit (.bool false)], args := [d1, d2] }
  | _ => none }
def JoinPagesWrongFalsely : Prop := joinPagesRow.holds Tryz.pinned (OpenSpec.ofChange joinPagesWrong)

/- THE SECOND FORM. 'bulk': how many values and letters a reading holds, each counted each time it is reached (what is shared counts as often as it is met; a slice's spare places count too). A statement '..UptoSaid' is the law's where the arguments, and the package variables that the reading takes, are together of bulk at most 1048576: NARROWER than '..Said'. Prove '..Said' where nothing that the law and all that it calls make is longer than what came in: it says more and counts as full. Else prove '..UptoSaid'. A law counts once. -/
mutual
def uptoBulk {H : Type} : DataW H → Nat
  | .lit (.string bytes) => bytes.length + 1
  | .lit _ => 1
  | .nil => 1
  | .ptr d => uptoBulk d + 1
  | .slice elems spare => uptoBulkAll elems + uptoBulkAll spare + 1
  | .agg parts => uptoBulkAll parts + 1
  | .iface _ d => uptoBulk d + 1
  | .map entries => uptoBulkEntries entries + 1
  | .held _ => 1
def uptoBulkAll {H : Type} : List (DataW H) → Nat
  | [] => 0
  | d :: r => uptoBulk d + uptoBulkAll r
def uptoBulkEntries {H : Type} : List (Lit × DataW H) → Nat
  | [] => 0
  | x :: r => uptoBulkEntry x + uptoBulkEntries r
def uptoBulkEntry {H : Type} : Lit × DataW H → Nat
  | (.string bytes, d) => bytes.length + uptoBulk d + 1
  | (_, d) => uptoBulk d + 1
 end
def uptoSmall : (H : Type) → List (DataW H) → Bool := fun _ ds => decide (uptoBulkAll ds ≤ 1048576)
def OpenSpec.upto (s : _root_.Go.ChangeSpec) : _root_.Go.OpenSpec := { _root_.Go.OpenSpec.ofChange s with cond := some uptoSmall }

/-- 'sizarlaw51.JoinHoldsSpec', WHERE WHAT IT READS IS OF BULK AT MOST 1048576: true; the input reads as it did. -/
def joinHoldsSpecUptoRow : OpenClaim := { program := "ytbegdcjofnfkiaagreatdoor", sum := "35193b646bf1d05596233c41ff0f9253f0859289e2582482dc2c4d12d4e59c9a", func := "sizar/sizarlaw51.JoinHoldsSpec", spec := "joinHoldsSpec", inPlace := ["internal/bytealg.IndexByteString"], unfollowed := true, recurses := true, named := ["sizar/query.kindWords"], plainKeys := false, apart := false, laid := [("sizar/query.kindWords", laid_sizar_query_kindWords)], narrowed := true }
def JoinHoldsSpecUptoSaid : Prop := joinHoldsSpecUptoRow.holds Tryz.pinned (OpenSpec.upto joinHoldsSpecSpec)

/-- 'sizarlaw51.JoinRowsSpec', WHERE WHAT IT READS IS OF BULK AT MOST 1048576: true; the input reads as it did. -/
def joinRowsSpecUptoRow : OpenClaim := { program := "ytbegdcjofnfkiaagreatdoor", sum := "35193b646bf1d05596233c41ff0f9253f0859289e2582482dc2c4d12d4e59c9a", func := "sizar/sizarlaw51.JoinRowsSpec", spec := "joinRowsSpec", inPlace := ["internal/bytealg.IndexByteString"], unfollowed := true, recurses := true, named := ["sizar/query.kindWords"], plainKeys := false, apart := false, laid := [("sizar/query.kindWords", laid_sizar_query_kindWords)], narrowed := true }
def JoinRowsSpecUptoSaid : Prop := joinRowsSpecUptoRow.holds Tryz.pinned (OpenSpec.upto joinRowsSpecSpec)

/-- 'sizarlaw51.JoinPages', WHERE WHAT IT READS IS OF BULK AT MOST 1048576: true; the input reads as it did. -/
def joinPagesUptoRow : OpenClaim := { program := "ytbegdcjofnfkiaagreatdoor", sum := "35193b646bf1d05596233c41ff0f9253f0859289e2582482dc2c4d12d4e59c9a", func := "sizar/sizarlaw51.JoinPages", spec := "joinPages", inPlace := ["internal/bytealg.IndexByteString", "slices.overlaps[sizar/api.Fact]", "slices.overlaps[int]"], unfollowed := true, recurses := true, named := ["sizar/query.kindWords"], plainKeys := false, apart := false, laid := [("sizar/query.kindWords", laid_sizar_query_kindWords)], narrowed := true }
def JoinPagesUptoSaid : Prop := joinPagesUptoRow.holds Tryz.pinned (OpenSpec.upto joinPagesSpec)

end Rows
end Go.Proofs.YtbegdcjofnfkiaaGreatDoor
