/-
  No cell of these rows narrows 'for every input' (looked for: loops, veiled, ifaces, maps, wideKeys, modest, calm, conditions, laid).
  DERIVED. THE GIVEN ROWS OF THIS SEAT. 7 by the template 'for every input the law returns true; each argument reads behind the call as it read before'; 0 by the template 'total and deterministic' (their statements: YtpnfpdkoeednhaaTotals.lean).
  GIVEN WITH THE SEED: the statements are not yours to turn. If you find one false, say at which input.
  Laid BY PROGRAM, IN A SANDBOX (cutbox-rows.mjs): the forced cells as the released guide's own fill.sh prints them over the translation d9ee04a81f6b514c… (all of the seat's roots in one cut). By AI agents, Wed Nov 11 2026. No macro, syntax, notation, axiom, sorry.
-/
import Derived.Test.YtpnfpdkoeednhaaChecked
import GoSem.Claim
import GoSem.ClaimJoined
import GoSem.ClaimMapViews
import Derived.JoinedTies
import Derived.KernelRfl
namespace Go.Proofs.Ytpnfpdkoeednhaa
/- THE CELL 'sum', in the pinned program and in every row, IS THE sha256 OF THE DUMP (.gsa) THAT YtpnfpdkoeednhaaProg.lean LOADS. Nothing in Lean hashes anything: it is a label: what it is worth is what the hold of that sum in a sandbox is worth. -/
noncomputable def Try.pinned : Pinned := { name := "ytpnfpdkoeednhaa", sum := "d9ee04a81f6b514c001e350f2e866e4af10dbc9ebd332249b8ca53255d43f374", checked := Try.checked }
namespace Rows
def none {H : Type} : Left H := { results := [], args := [] }

/-- 'sizarlaw47.PagesPutSpec': WHATEVER THE INPUT: true; the input reads as it did. -/
def pagesPutSpecSpec : ChangeSpec := { name := "pagesPutSpec", fn := fun _ => fun
  | [d1, d2] => { results := [.lit (.bool true)], args := [d1, d2] }
  | _ => none }
def pagesPutSpecRow : OpenClaim := { program := "ytpnfpdkoeednhaa", sum := "d9ee04a81f6b514c001e350f2e866e4af10dbc9ebd332249b8ca53255d43f374", func := "sizar/sizarlaw47.PagesPutSpec", spec := "pagesPutSpec", inPlace := ["slices.overlaps[sizar/api.Fact]", "slices.overlaps[int]"], unfollowed := true, recurses := true, apart := false }
def PagesPutSpecSaid : Prop := pagesPutSpecRow.holds Try.pinned (OpenSpec.ofChange pagesPutSpecSpec)

/-- ITS FALSE NEIGHBOUR: 'it returns false'. Refute it at one input. -/
def pagesPutSpecWrong : ChangeSpec := { name := "pagesPutSpec", fn := fun _ => fun
  | [d1, d2] => { results := [.lit (.bool false)], args := [d1, d2] }
  | _ => none }
def PagesPutSpecWrongFalsely : Prop := pagesPutSpecRow.holds Try.pinned (OpenSpec.ofChange pagesPutSpecWrong)

/-- 'sizarlaw47.PagesAtSpec': WHATEVER THE INPUT: true; the input reads as it did. -/
def pagesAtSpecSpec : ChangeSpec := { name := "pagesAtSpec", fn := fun _ => fun
  | [d1, d2, d3, d4, d5] => { results := [.lit (.bool true)], args := [d1, d2, d3, d4, d5] }
  | _ => none }
def pagesAtSpecRow : OpenClaim := { program := "ytpnfpdkoeednhaa", sum := "d9ee04a81f6b514c001e350f2e866e4af10dbc9ebd332249b8ca53255d43f374", func := "sizar/sizarlaw47.PagesAtSpec", spec := "pagesAtSpec", inPlace := ["slices.overlaps[sizar/api.Fact]", "slices.overlaps[int]"], unfollowed := true, recurses := true, apart := false }
def PagesAtSpecSaid : Prop := pagesAtSpecRow.holds Try.pinned (OpenSpec.ofChange pagesAtSpecSpec)

/-- ITS FALSE NEIGHBOUR: 'it returns false'. Refute it at one input. -/
def pagesAtSpecWrong : ChangeSpec := { name := "pagesAtSpec", fn := fun _ => fun
  | [d1, d2, d3, d4, d5] => { results := [.lit (.bool false)], args := [d1, d2, d3, d4, d5] }
  | _ => none }
def PagesAtSpecWrongFalsely : Prop := pagesAtSpecRow.holds Try.pinned (OpenSpec.ofChange pagesAtSpecWrong)

/-- 'sizarlaw47.PagesFacts': WHATEVER THE INPUT: true; the input reads as it did. -/
def pagesFactsSpec : ChangeSpec := { name := "pagesFacts", fn := fun _ => fun
  | [d1, d2, d3, d4, d5] => { results := [.lit (.bool true)], args := [d1, d2, d3, d4, d5] }
  | _ => none }
def pagesFactsRow : OpenClaim := { program := "ytpnfpdkoeednhaa", sum := "d9ee04a81f6b514c001e350f2e866e4af10dbc9ebd332249b8ca53255d43f374", func := "sizar/sizarlaw47.PagesFacts", spec := "pagesFacts", inPlace := ["slices.overlaps[sizar/api.Fact]", "slices.overlaps[int]"], unfollowed := true, recurses := true, apart := false }
def PagesFactsSaid : Prop := pagesFactsRow.holds Try.pinned (OpenSpec.ofChange pagesFactsSpec)

/-- ITS FALSE NEIGHBOUR: 'it returns false'. Refute it at one input. -/
def pagesFactsWrong : ChangeSpec := { name := "pagesFacts", fn := fun _ => fun
  | [d1, d2, d3, d4, d5] => { results := [.lit (.bool false)], args := [d1, d2, d3, d4, d5] }
  | _ => none }
def PagesFactsWrongFalsely : Prop := pagesFactsRow.holds Try.pinned (OpenSpec.ofChange pagesFactsWrong)

/-- 'sizarlaw47.PagesKept': WHATEVER THE INPUT: true; the input reads as it did. -/
def pagesKeptSpec : ChangeSpec := { name := "pagesKept", fn := fun _ => fun
  | [d1, d2, d3] => { results := [.lit (.bool true)], args := [d1, d2, d3] }
  | _ => none }
def pagesKeptRow : OpenClaim := { program := "ytpnfpdkoeednhaa", sum := "d9ee04a81f6b514c001e350f2e866e4af10dbc9ebd332249b8ca53255d43f374", func := "sizar/sizarlaw47.PagesKept", spec := "pagesKept", inPlace := ["slices.overlaps[sizar/api.Fact]", "slices.overlaps[int]"], unfollowed := true, recurses := true, apart := false }
def PagesKeptSaid : Prop := pagesKeptRow.holds Try.pinned (OpenSpec.ofChange pagesKeptSpec)

/-- ITS FALSE NEIGHBOUR: 'it returns false'. Refute it at one input. -/
def pagesKeptWrong : ChangeSpec := { name := "pagesKept", fn := fun _ => fun
  | [d1, d2, d3] => { results := [.lit (.bool false)], args := [d1, d2, d3] }
  | _ => none }
def PagesKeptWrongFalsely : Prop := pagesKeptRow.holds Try.pinned (OpenSpec.ofChange pagesKeptWrong)

/-- 'sizarlaw47.PagesGrow': WHATEVER THE INPUT: true; the input reads as it did. -/
def pagesGrowSpec : ChangeSpec := { name := "pagesGrow", fn := fun _ => fun
  | [d1, d2] => { results := [.lit (.bool true)], args := [d1, d2] }
  | _ => none }
def pagesGrowRow : OpenClaim := { program := "ytpnfpdkoeednhaa", sum := "d9ee04a81f6b514c001e350f2e866e4af10dbc9ebd332249b8ca53255d43f374", func := "sizar/sizarlaw47.PagesGrow", spec := "pagesGrow", inPlace := ["slices.overlaps[sizar/api.Fact]", "slices.overlaps[int]"], unfollowed := true, recurses := true, apart := false }
def PagesGrowSaid : Prop := pagesGrowRow.holds Try.pinned (OpenSpec.ofChange pagesGrowSpec)

/-- ITS FALSE NEIGHBOUR: 'it returns false'. Refute it at one input. -/
def pagesGrowWrong : ChangeSpec := { name := "pagesGrow", fn := fun _ => fun
  | [d1, d2] => { results := [.lit (.bool false)], args := [d1, d2] }
  | _ => none }
def PagesGrowWrongFalsely : Prop := pagesGrowRow.holds Try.pinned (OpenSpec.ofChange pagesGrowWrong)

/-- 'sizarlaw47.PagesTurned': WHATEVER THE INPUT: true; the input reads as it did. -/
def pagesTurnedSpec : ChangeSpec := { name := "pagesTurned", fn := fun _ => fun
  | [d1, d2] => { results := [.lit (.bool true)], args := [d1, d2] }
  | _ => none }
def pagesTurnedRow : OpenClaim := { program := "ytpnfpdkoeednhaa", sum := "d9ee04a81f6b514c001e350f2e866e4af10dbc9ebd332249b8ca53255d43f374", func := "sizar/sizarlaw47.PagesTurned", spec := "pagesTurned", inPlace := ["slices.overlaps[sizar/api.Fact]", "slices.overlaps[int]"], unfollowed := true, recurses := true, apart := false }
def PagesTurnedSaid : Prop := pagesTurnedRow.holds Try.pinned (OpenSpec.ofChange pagesTurnedSpec)

/-- ITS FALSE NEIGHBOUR: 'it returns false'. Refute it at one input. -/
def pagesTurnedWrong : ChangeSpec := { name := "pagesTurned", fn := fun _ => fun
  | [d1, d2] => { results := [.lit (.bool false)], args := [d1, d2] }
  | _ => none }
def PagesTurnedWrongFalsely : Prop := pagesTurnedRow.holds Try.pinned (OpenSpec.ofChange pagesTurnedWrong)

/-- 'sizarlaw47.PagesSorted': WHATEVER THE INPUT: true; the input reads as it did. -/
def pagesSortedSpec : ChangeSpec := { name := "pagesSorted", fn := fun _ => fun
  | [d1, d2] => { results := [.lit (.bool true)], args := [d1, d2] }
  | _ => none }
def pagesSortedRow : OpenClaim := { program := "ytpnfpdkoeednhaa", sum := "d9ee04a81f6b514c001e350f2e866e4af10dbc9ebd332249b8ca53255d43f374", func := "sizar/sizarlaw47.PagesSorted", spec := "pagesSorted", inPlace := ["slices.overlaps[sizar/api.Fact]", "slices.overlaps[int]"], unfollowed := true, recurses := true, apart := false }
def PagesSortedSaid : Prop := pagesSortedRow.holds Try.pinned (OpenSpec.ofChange pagesSortedSpec)

/-- ITS FALSE NEIGHBOUR: 'it returns false'. Refute it at one input. -/
def pagesSortedWrong : ChangeSpec := { name := "pagesSorted", fn := fun _ => fun
  | [d1, d2] => { results := [.lit (.bool false)], args := [d1, d2] }
  | _ => none }
def PagesSortedWrongFalsely : Prop := pagesSortedRow.holds Try.pinned (OpenSpec.ofChange pagesSortedWrong)

/- THE SECOND FORM. 'bulk': how many values and letters a reading holds, each counted each time it is reached (what is shared counts as often as it is met; a slice's spare places count too). A statement '..UptoSaid' is the law's where the arguments, and the package variables that the reading takes, are together of bulk at most 1048576: NARROWER than '..Said'. Prove '..Said' where nothing that the law and all that it calls make is longer than what came in: it says more and counts as full. Else prove '..UptoSaid'. A law counts once. -/
mutual
def uptoBulk {H : Type} : DataW H → Nat
  | .lit (.string bytes) => bytes.length + 1
  | .lit _ => 1
  | .nil => 1
  | .ptr d => uptoBulk d + 1
  | .slice elems spare => uptoBulkAll elems + uptoBulkAll spare + 1
  | .agg parts => uptoBulkAll parts + 1
  | .iface _ d => uptoBulk d + 1
  | .map entries => uptoBulkEntries entries + 1
  | .held _ => 1
def uptoBulkAll {H : Type} : List (DataW H) → Nat
  | [] => 0
  | d :: r => uptoBulk d + uptoBulkAll r
def uptoBulkEntries {H : Type} : List (Lit × DataW H) → Nat
  | [] => 0
  | x :: r => uptoBulkEntry x + uptoBulkEntries r
def uptoBulkEntry {H : Type} : Lit × DataW H → Nat
  | (.string bytes, d) => bytes.length + uptoBulk d + 1
  | (_, d) => uptoBulk d + 1
 end
def uptoSmall : (H : Type) → List (DataW H) → Bool := fun _ ds => decide (uptoBulkAll ds ≤ 1048576)
def OpenSpec.upto (s : _root_.Go.ChangeSpec) : _root_.Go.OpenSpec := { _root_.Go.OpenSpec.ofChange s with cond := some uptoSmall }

/-- 'sizarlaw47.PagesPutSpec', WHERE WHAT IT READS IS OF BULK AT MOST 1048576: true; the input reads as it did. -/
def pagesPutSpecUptoRow : OpenClaim := { program := "ytpnfpdkoeednhaa", sum := "d9ee04a81f6b514c001e350f2e866e4af10dbc9ebd332249b8ca53255d43f374", func := "sizar/sizarlaw47.PagesPutSpec", spec := "pagesPutSpec", inPlace := ["slices.overlaps[sizar/api.Fact]", "slices.overlaps[int]"], unfollowed := true, recurses := true, apart := false, narrowed := true }
def PagesPutSpecUptoSaid : Prop := pagesPutSpecUptoRow.holds Try.pinned (OpenSpec.upto pagesPutSpecSpec)

/-- 'sizarlaw47.PagesAtSpec', WHERE WHAT IT READS IS OF BULK AT MOST 1048576: true; the input reads as it did. -/
def pagesAtSpecUptoRow : OpenClaim := { program := "ytpnfpdkoeednhaa", sum := "d9ee04a81f6b514c001e350f2e866e4af10dbc9ebd332249b8ca53255d43f374", func := "sizar/sizarlaw47.PagesAtSpec", spec := "pagesAtSpec", inPlace := ["slices.overlaps[sizar/api.Fact]", "slices.overlaps[int]"], unfollowed := true, recurses := true, apart := false, narrowed := true }
def PagesAtSpecUptoSaid : Prop := pagesAtSpecUptoRow.holds Try.pinned (OpenSpec.upto pagesAtSpecSpec)

/-- 'sizarlaw47.PagesFacts', WHERE WHAT IT READS IS OF BULK AT MOST 1048576: true; the input reads as it did. -/
def pagesFactsUptoRow : OpenClaim := { program := "ytpnfpdkoeednhaa", sum := "d9ee04a81f6b514c001e350f2e866e4af10dbc9ebd332249b8ca53255d43f374", func := "sizar/sizarlaw47.PagesFacts", spec := "pagesFacts", inPlace := ["slices.overlaps[sizar/api.Fact]", "slices.overlaps[int]"], unfollowed := true, recurses := true, apart := false, narrowed := true }
def PagesFactsUptoSaid : Prop := pagesFactsUptoRow.holds Try.pinned (OpenSpec.upto pagesFactsSpec)

/-- 'sizarlaw47.PagesKept', WHERE WHAT IT READS IS OF BULK AT MOST 1048576: true; the input reads as it did. -/
def pagesKeptUptoRow : OpenClaim := { program := "ytpnfpdkoeednhaa", sum := "d9ee04a81f6b514c001e350f2e866e4af10dbc9ebd332249b8ca53255d43f374", func := "sizar/sizarlaw47.PagesKept", spec := "pagesKept", inPlace := ["slices.overlaps[sizar/api.Fact]", "slices.overlaps[int]"], unfollowed := true, recurses := true, apart := false, narrowed := true }
def PagesKeptUptoSaid : Prop := pagesKeptUptoRow.holds Try.pinned (OpenSpec.upto pagesKeptSpec)

/-- 'sizarlaw47.PagesGrow', WHERE WHAT IT READS IS OF BULK AT MOST 1048576: true; the input reads as it did. -/
def pagesGrowUptoRow : OpenClaim := { program := "ytpnfpdkoeednhaa", sum := "d9ee04a81f6b514c001e350f2e866e4af10dbc9ebd332249b8ca53255d43f374", func := "sizar/sizarlaw47.PagesGrow", spec := "pagesGrow", inPlace := ["slices.overlaps[sizar/api.Fact]", "slices.overlaps[int]"], unfollowed := true, recurses := true, apart := false, narrowed := true }
def PagesGrowUptoSaid : Prop := pagesGrowUptoRow.holds Try.pinned (OpenSpec.upto pagesGrowSpec)

/-- 'sizarlaw47.PagesTurned', WHERE WHAT IT READS IS OF BULK AT MOST 1048576: true; the input reads as it did. -/
def pagesTurnedUptoRow : OpenClaim := { program := "ytpnfpdkoeednhaa", sum := "d9ee04a81f6b514c001e350f2e866e4af10dbc9ebd332249b8ca53255d43f374", func := "sizar/sizarlaw47.PagesTurned", spec := "pagesTurned", inPlace := ["slices.overlaps[sizar/api.Fact]", "slices.overlaps[int]"], unfollowed := true, recurses := true, apart := false, narrowed := true }
def PagesTurnedUptoSaid : Prop := pagesTurnedUptoRow.holds Try.pinned (OpenSpec.upto pagesTurnedSpec)

/-- 'sizarlaw47.PagesSorted', WHERE WHAT IT READS IS OF BULK AT MOST 1048576: true; the input reads as it did. -/
def pagesSortedUptoRow : OpenClaim := { program := "ytpnfpdkoeednhaa", sum := "d9ee04a81f6b514c001e350f2e866e4af10dbc9ebd332249b8ca53255d43f374", func := "sizar/sizarlaw47.PagesSorted", spec := "pagesSorted", inPlace := ["slices.overlaps[sizar/api.Fact]", "slices.overlaps[int]"], unfollowed := true, recurses := true, apart := false, narrowed := true }
def PagesSortedUptoSaid : Prop := pagesSortedUptoRow.holds Try.pinned (OpenSpec.upto pagesSortedSpec)

end Rows
end Go.Proofs.Ytpnfpdkoeednhaa
