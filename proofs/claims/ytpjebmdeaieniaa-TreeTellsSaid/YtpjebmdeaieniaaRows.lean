/-
  No cell of these rows narrows 'for every input' (looked for: loops, veiled, ifaces, maps, wideKeys, modest, calm, conditions, laid).
  DERIVED. THE GIVEN ROWS OF THIS SEAT. 5 by the template 'for every input the law returns true; each argument reads behind the call as it read before'; 0 by the template 'total and deterministic' (their statements: YtpjebmdeaieniaaTotals.lean).
  GIVEN WITH THE SEED: the statements are not yours to turn. If you find one false, say at which input.
  Laid BY PROGRAM, IN A SANDBOX (cutbox-rows.mjs): the forced cells as the released guide's own fill.sh prints them over the translation 3ef92b18f6015228… (all of the seat's roots in one cut). By AI agents, Wed Nov 11 2026. No macro, syntax, notation, axiom, sorry.
-/
import Derived.Test.YtpjebmdeaieniaaChecked
import GoSem.Claim
import GoSem.ClaimJoined
import GoSem.ClaimMapViews
import Derived.JoinedTies
import Derived.KernelRfl
namespace Go.Proofs.Ytpjebmdeaieniaa
/- THE CELL 'sum', in the pinned program and in every row, IS THE sha256 OF THE DUMP (.gsa) THAT YtpjebmdeaieniaaProg.lean LOADS. Nothing in Lean hashes anything: it is a label: what it is worth is what the hold of that sum in a sandbox is worth. -/
noncomputable def Try.pinned : Pinned := { name := "ytpjebmdeaieniaa", sum := "3ef92b18f601522873b9ee8fcf004c0fa050c8465479ded75bb14c96ad9b20da", checked := Try.checked }
namespace Rows
def none {H : Type} : Left H := { results := [], args := [] }

/-- 'pneumaticlaw22.TreeTells': WHATEVER THE INPUT: true; the input reads as it did. -/
def treeTellsSpec : ChangeSpec := { name := "treeTells", fn := fun _ => fun
  | [d1, d2, d3] => { results := [.lit (.bool true)], args := [d1, d2, d3] }
  | _ => none }
def treeTellsRow : OpenClaim := { program := "ytpjebmdeaieniaa", sum := "3ef92b18f601522873b9ee8fcf004c0fa050c8465479ded75bb14c96ad9b20da", func := "pneumatic/pneumaticlaw22.TreeTells", spec := "treeTells", unfollowed := true, recurses := true, apart := false }
def TreeTellsSaid : Prop := treeTellsRow.holds Try.pinned (OpenSpec.ofChange treeTellsSpec)

/-- ITS FALSE NEIGHBOUR: 'it returns false'. Refute it at one input. -/
def treeTellsWrong : ChangeSpec := { name := "treeTells", fn := fun _ => fun
  | [d1, d2, d3] => { results := [.lit (.bool false)], args := [d1, d2, d3] }
  | _ => none }
def TreeTellsWrongFalsely : Prop := treeTellsRow.holds Try.pinned (OpenSpec.ofChange treeTellsWrong)

/-- 'pneumaticlaw22.TreeWays': WHATEVER THE INPUT: true; the input reads as it did. -/
def treeWaysSpec : ChangeSpec := { name := "treeWays", fn := fun _ => fun
  | [d1, d2, d3] => { results := [.lit (.bool true)], args := [d1, d2, d3] }
  | _ => none }
def treeWaysRow : OpenClaim := { program := "ytpjebmdeaieniaa", sum := "3ef92b18f601522873b9ee8fcf004c0fa050c8465479ded75bb14c96ad9b20da", func := "pneumatic/pneumaticlaw22.TreeWays", spec := "treeWays", unfollowed := true, recurses := true, apart := false }
def TreeWaysSaid : Prop := treeWaysRow.holds Try.pinned (OpenSpec.ofChange treeWaysSpec)

/-- ITS FALSE NEIGHBOUR: 'it returns false'. Refute it at one input. -/
def treeWaysWrong : ChangeSpec := { name := "treeWays", fn := fun _ => fun
  | [d1, d2, d3] => { results := [.lit (.bool false)], args := [d1, d2, d3] }
  | _ => none }
def TreeWaysWrongFalsely : Prop := treeWaysRow.holds Try.pinned (OpenSpec.ofChange treeWaysWrong)

/-- 'pneumaticlaw22.TreeSides': WHATEVER THE INPUT: true; the input reads as it did. -/
def treeSidesSpec : ChangeSpec := { name := "treeSides", fn := fun _ => fun
  | [d1, d2] => { results := [.lit (.bool true)], args := [d1, d2] }
  | _ => none }
def treeSidesRow : OpenClaim := { program := "ytpjebmdeaieniaa", sum := "3ef92b18f601522873b9ee8fcf004c0fa050c8465479ded75bb14c96ad9b20da", func := "pneumatic/pneumaticlaw22.TreeSides", spec := "treeSides", unfollowed := true, recurses := true, apart := false }
def TreeSidesSaid : Prop := treeSidesRow.holds Try.pinned (OpenSpec.ofChange treeSidesSpec)

/-- ITS FALSE NEIGHBOUR: 'it returns false'. Refute it at one input. -/
def treeSidesWrong : ChangeSpec := { name := "treeSides", fn := fun _ => fun
  | [d1, d2] => { results := [.lit (.bool false)], args := [d1, d2] }
  | _ => none }
def TreeSidesWrongFalsely : Prop := treeSidesRow.holds Try.pinned (OpenSpec.ofChange treeSidesWrong)

/-- 'pneumaticlaw22.TreePubs': WHATEVER THE INPUT: true; the input reads as it did. -/
def treePubsSpec : ChangeSpec := { name := "treePubs", fn := fun _ => fun
  | [d1, d2, d3] => { results := [.lit (.bool true)], args := [d1, d2, d3] }
  | _ => none }
def treePubsRow : OpenClaim := { program := "ytpjebmdeaieniaa", sum := "3ef92b18f601522873b9ee8fcf004c0fa050c8465479ded75bb14c96ad9b20da", func := "pneumatic/pneumaticlaw22.TreePubs", spec := "treePubs", unfollowed := true, recurses := true, apart := false }
def TreePubsSaid : Prop := treePubsRow.holds Try.pinned (OpenSpec.ofChange treePubsSpec)

/-- ITS FALSE NEIGHBOUR: 'it returns false'. Refute it at one input. -/
def treePubsWrong : ChangeSpec := { name := "treePubs", fn := fun _ => fun
  | [d1, d2, d3] => { results := [.lit (.bool false)], args := [d1, d2, d3] }
  | _ => none }
def TreePubsWrongFalsely : Prop := treePubsRow.holds Try.pinned (OpenSpec.ofChange treePubsWrong)

/-- 'pneumaticlaw22.TreeKnown': WHATEVER THE INPUT: true; the input reads as it did. -/
def treeKnownSpec : ChangeSpec := { name := "treeKnown", fn := fun _ => fun
  | [] => { results := [.lit (.bool true)], args := [] }
  | _ => none }
def treeKnownRow : OpenClaim := { program := "ytpjebmdeaieniaa", sum := "3ef92b18f601522873b9ee8fcf004c0fa050c8465479ded75bb14c96ad9b20da", func := "pneumatic/pneumaticlaw22.TreeKnown", spec := "treeKnown", unfollowed := true, recurses := true, apart := false }
def TreeKnownSaid : Prop := treeKnownRow.holds Try.pinned (OpenSpec.ofChange treeKnownSpec)

/-- ITS FALSE NEIGHBOUR: 'it returns false'. Refute it at one input. -/
def treeKnownWrong : ChangeSpec := { name := "treeKnown", fn := fun _ => fun
  | [] => { results := [.lit (.bool false)], args := [] }
  | _ => none }
def TreeKnownWrongFalsely : Prop := treeKnownRow.holds Try.pinned (OpenSpec.ofChange treeKnownWrong)

/- THE SECOND FORM. 'bulk': how many values and letters a reading holds, each counted each time it is reached (what is shared counts as often as it is met; a slice's spare places count too). A statement '..UptoSaid' is the law's where the arguments, and the package variables that the reading takes, are together of bulk at most 1048576: NARROWER than '..Said'. Prove '..Said' where nothing that the law and all that it calls make is longer than what came in: it says more and counts as full. Else prove '..UptoSaid'. A law counts once. -/
mutual
def uptoBulk {H : Type} : DataW H → Nat
  | .lit (.string bytes) => bytes.length + 1
  | .lit _ => 1
  | .nil => 1
  | .ptr d => uptoBulk d + 1
  | .slice elems spare => uptoBulkAll elems + uptoBulkAll spare + 1
  | .agg parts => uptoBulkAll parts + 1
  | .iface _ d => uptoBulk d + 1
  | .map entries => uptoBulkEntries entries + 1
  | .held _ => 1
def uptoBulkAll {H : Type} : List (DataW H) → Nat
  | [] => 0
  | d :: r => uptoBulk d + uptoBulkAll r
def uptoBulkEntries {H : Type} : List (Lit × DataW H) → Nat
  | [] => 0
  | x :: r => uptoBulkEntry x + uptoBulkEntries r
def uptoBulkEntry {H : Type} : Lit × DataW H → Nat
  | (.string bytes, d) => bytes.length + uptoBulk d + 1
  | (_, d) => uptoBulk d + 1
 end
def uptoSmall : (H : Type) → List (DataW H) → Bool := fun _ ds => decide (uptoBulkAll ds ≤ 1048576)
def OpenSpec.upto (s : _root_.Go.ChangeSpec) : _root_.Go.OpenSpec := { _root_.Go.OpenSpec.ofChange s with cond := some uptoSmall }

/-- 'pneumaticlaw22.TreeTells', WHERE WHAT IT READS IS OF BULK AT MOST 1048576: true; the input reads as it did. -/
def treeTellsUptoRow : OpenClaim := { program := "ytpjebmdeaieniaa", sum := "3ef92b18f601522873b9ee8fcf004c0fa050c8465479ded75bb14c96ad9b20da", func := "pneumatic/pneumaticlaw22.TreeTells", spec := "treeTells", unfollowed := true, recurses := true, apart := false, narrowed := true }
def TreeTellsUptoSaid : Prop := treeTellsUptoRow.holds Try.pinned (OpenSpec.upto treeTellsSpec)

/-- 'pneumaticlaw22.TreeWays', WHERE WHAT IT READS IS OF BULK AT MOST 1048576: true; the input reads as it did. -/
def treeWaysUptoRow : OpenClaim := { program := "ytpjebmdeaieniaa", sum := "3ef92b18f601522873b9ee8fcf004c0fa050c8465479ded75bb14c96ad9b20da", func := "pneumatic/pneumaticlaw22.TreeWays", spec := "treeWays", unfollowed := true, recurses := true, apart := false, narrowed := true }
def TreeWaysUptoSaid : Prop := treeWaysUptoRow.holds Try.pinned (OpenSpec.upto treeWaysSpec)

/-- 'pneumaticlaw22.TreeSides', WHERE WHAT IT READS IS OF BULK AT MOST 1048576: true; the input reads as it did. -/
def treeSidesUptoRow : OpenClaim := { program := "ytpjebmdeaieniaa", sum := "3ef92b18f601522873b9ee8fcf004c0fa050c8465479ded75bb14c96ad9b20da", func := "pneumatic/pneumaticlaw22.TreeSides", spec := "treeSides", unfollowed := true, recurses := true, apart := false, narrowed := true }
def TreeSidesUptoSaid : Prop := treeSidesUptoRow.holds Try.pinned (OpenSpec.upto treeSidesSpec)

/-- 'pneumaticlaw22.TreePubs', WHERE WHAT IT READS IS OF BULK AT MOST 1048576: true; the input reads as it did. -/
def treePubsUptoRow : OpenClaim := { program := "ytpjebmdeaieniaa", sum := "3ef92b18f601522873b9ee8fcf004c0fa050c8465479ded75bb14c96ad9b20da", func := "pneumatic/pneumaticlaw22.TreePubs", spec := "treePubs", unfollowed := true, recurses := true, apart := false, narrowed := true }
def TreePubsUptoSaid : Prop := treePubsUptoRow.holds Try.pinned (OpenSpec.upto treePubsSpec)

/-- 'pneumaticlaw22.TreeKnown', WHERE WHAT IT READS IS OF BULK AT MOST 1048576: true; the input reads as it did. -/
def treeKnownUptoRow : OpenClaim := { program := "ytpjebmdeaieniaa", sum := "3ef92b18f601522873b9ee8fcf004c0fa050c8465479ded75bb14c96ad9b20da", func := "pneumatic/pneumaticlaw22.TreeKnown", spec := "treeKnown", unfollowed := true, recurses := true, apart := false, narrowed := true }
def TreeKnownUptoSaid : Prop := treeKnownUptoRow.holds Try.pinned (OpenSpec.upto treeKnownSpec)

end Rows
end Go.Proofs.Ytpjebmdeaieniaa
