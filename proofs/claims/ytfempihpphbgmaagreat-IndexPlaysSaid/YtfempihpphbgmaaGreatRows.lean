/-
  No cell of these rows narrows 'for every input' (looked for: loops, veiled, ifaces, maps, wideKeys, modest, calm, conditions, laid).
  DERIVED. THE GIVEN ROWS OF THIS SEAT. 5 by the template 'for every input the law returns true; each argument reads behind the call as it read before'; 0 by the template 'total and deterministic' (their statements: YtfempihpphbgmaaGreatTotals.lean).
  GIVEN WITH THE SEED: the statements are not yours to turn. If you find one false, say at which input.
  Laid BY PROGRAM, IN A SANDBOX (cutbox-rows.mjs): the forced cells as the released guide's own fill.sh prints them over the translation f18eb40cdf0208d2… (all of the seat's roots in one cut). By AI agents, Wed Nov 11 2026. No macro, syntax, notation, axiom, sorry.
-/
import Derived.Test.YtfempihpphbgmaaGreatChecked
import GoSem.Claim
import GoSem.ClaimJoined
import GoSem.ClaimMapViews
import Derived.JoinedTies
import Derived.KernelRfl
namespace Go.Proofs.YtfempihpphbgmaaGreat
/- THE CELL 'sum', in the pinned program and in every row, IS THE sha256 OF THE DUMP (.gsa) THAT YtfempihpphbgmaaGreatProg.lean LOADS. Nothing in Lean hashes anything: it is a label: what it is worth is what the hold of that sum in a sandbox is worth. -/
noncomputable def Tryz.pinned : Pinned := { name := "ytfempihpphbgmaagreat", sum := "f18eb40cdf0208d2667ded73d53848cff4fa646fcf514cd1a6c9022b46c071b9", checked := Tryz.checked }
namespace Rows
def none {H : Type} : Left H := { results := [], args := [] }

/-- 'pneumaticlaw14.IndexExact': WHATEVER THE INPUT: true; the input reads as it did. -/
def indexExactSpec : ChangeSpec := { name := "indexExact", fn := fun _ => fun
  | [d1, d2, d3] => { results := [.lit (.bool true)], args := [d1, d2, d3] }
  | _ => none }
def indexExactRow : OpenClaim := { program := "ytfempihpphbgmaagreat", sum := "f18eb40cdf0208d2667ded73d53848cff4fa646fcf514cd1a6c9022b46c071b9", func := "pneumatic/pneumaticlaw14.IndexExact", spec := "indexExact", inPlace := ["internal/bytealg.abigen_runtime_cmpstring", "slices.overlaps[pneumatic/index.entry]"], unfollowed := true, recurses := true, apart := false }
def IndexExactSaid : Prop := indexExactRow.holds Tryz.pinned (OpenSpec.ofChange indexExactSpec)

/-- ITS FALSE NEIGHBOUR: 'it returns false'. Refute it at one input. -/
def indexExactWrong : ChangeSpec := { name := "indexExact", fn := fun _ => fun
  | [d1, d2, d3] => { results := [.lit (.bool false)], args := [d1, d2, d3] }
  | _ => none }
def IndexExactWrongFalsely : Prop := indexExactRow.holds Tryz.pinned (OpenSpec.ofChange indexExactWrong)

/-- 'pneumaticlaw14.IndexBoth': WHATEVER THE INPUT: true; the input reads as it did. -/
def indexBothSpec : ChangeSpec := { name := "indexBoth", fn := fun _ => fun
  | [d1, d2, d3, d4] => { results := [.lit (.bool true)], args := [d1, d2, d3, d4] }
  | _ => none }
def indexBothRow : OpenClaim := { program := "ytfempihpphbgmaagreat", sum := "f18eb40cdf0208d2667ded73d53848cff4fa646fcf514cd1a6c9022b46c071b9", func := "pneumatic/pneumaticlaw14.IndexBoth", spec := "indexBoth", inPlace := ["internal/bytealg.abigen_runtime_cmpstring", "slices.overlaps[pneumatic/index.entry]"], unfollowed := true, recurses := true, apart := false }
def IndexBothSaid : Prop := indexBothRow.holds Tryz.pinned (OpenSpec.ofChange indexBothSpec)

/-- ITS FALSE NEIGHBOUR: 'it returns false'. Refute it at one input. -/
def indexBothWrong : ChangeSpec := { name := "indexBoth", fn := fun _ => fun
  | [d1, d2, d3, d4] => { results := [.lit (.bool false)], args := [d1, d2, d3, d4] }
  | _ => none }
def IndexBothWrongFalsely : Prop := indexBothRow.holds Tryz.pinned (OpenSpec.ofChange indexBothWrong)

/-- 'pneumaticlaw14.IndexSets': WHATEVER THE INPUT: true; the input reads as it did. -/
def indexSetsSpec : ChangeSpec := { name := "indexSets", fn := fun _ => fun
  | [d1, d2, d3, d4] => { results := [.lit (.bool true)], args := [d1, d2, d3, d4] }
  | _ => none }
def indexSetsRow : OpenClaim := { program := "ytfempihpphbgmaagreat", sum := "f18eb40cdf0208d2667ded73d53848cff4fa646fcf514cd1a6c9022b46c071b9", func := "pneumatic/pneumaticlaw14.IndexSets", spec := "indexSets", inPlace := ["internal/bytealg.abigen_runtime_cmpstring", "slices.overlaps[pneumatic/index.entry]"], unfollowed := true, recurses := true, apart := false }
def IndexSetsSaid : Prop := indexSetsRow.holds Tryz.pinned (OpenSpec.ofChange indexSetsSpec)

/-- ITS FALSE NEIGHBOUR: 'it returns false'. Refute it at one input. -/
def indexSetsWrong : ChangeSpec := { name := "indexSets", fn := fun _ => fun
  | [d1, d2, d3, d4] => { results := [.lit (.bool false)], args := [d1, d2, d3, d4] }
  | _ => none }
def IndexSetsWrongFalsely : Prop := indexSetsRow.holds Tryz.pinned (OpenSpec.ofChange indexSetsWrong)

/-- 'pneumaticlaw14.IndexPlays': WHATEVER THE INPUT: true; the input reads as it did. -/
def indexPlaysSpec : ChangeSpec := { name := "indexPlays", fn := fun _ => fun
  | [d] => { results := [.lit (.bool true)], args := [d] }
  | _ => none }
def indexPlaysRow : OpenClaim := { program := "ytfempihpphbgmaagreat", sum := "f18eb40cdf0208d2667ded73d53848cff4fa646fcf514cd1a6c9022b46c071b9", func := "pneumatic/pneumaticlaw14.IndexPlays", spec := "indexPlays", inPlace := ["internal/bytealg.abigen_runtime_cmpstring", "slices.overlaps[pneumatic/index.entry]", "maps.clone"], unfollowed := true, recurses := true, apart := false }
def IndexPlaysSaid : Prop := indexPlaysRow.holds Tryz.pinned (OpenSpec.ofChange indexPlaysSpec)

/-- ITS FALSE NEIGHBOUR: 'it returns false'. Refute it at one input. -/
def indexPlaysWrong : ChangeSpec := { name := "indexPlays", fn := fun _ => fun
  | [d] => { results := [.lit (.bool false)], args := [d] }
  | _ => none }
def IndexPlaysWrongFalsely : Prop := indexPlaysRow.holds Tryz.pinned (OpenSpec.ofChange indexPlaysWrong)

/-- 'pneumaticlaw14.IndexKnown': WHATEVER THE INPUT: true; the input reads as it did. -/
def indexKnownSpec : ChangeSpec := { name := "indexKnown", fn := fun _ => fun
  | [] => { results := [.lit (.bool true)], args := [] }
  | _ => none }
def indexKnownRow : OpenClaim := { program := "ytfempihpphbgmaagreat", sum := "f18eb40cdf0208d2667ded73d53848cff4fa646fcf514cd1a6c9022b46c071b9", func := "pneumatic/pneumaticlaw14.IndexKnown", spec := "indexKnown", inPlace := ["internal/bytealg.abigen_runtime_cmpstring", "slices.overlaps[pneumatic/index.entry]", "maps.clone"], unfollowed := true, recurses := true, apart := false }
def IndexKnownSaid : Prop := indexKnownRow.holds Tryz.pinned (OpenSpec.ofChange indexKnownSpec)

/-- ITS FALSE NEIGHBOUR: 'it returns false'. Refute it at one input. -/
def indexKnownWrong : ChangeSpec := { name := "indexKnown", fn := fun _ => fun
  | [] => { results := [.lit (.bool false)], args := [] }
  | _ => none }
def IndexKnownWrongFalsely : Prop := indexKnownRow.holds Tryz.pinned (OpenSpec.ofChange indexKnownWrong)

/- THE SECOND FORM. 'bulk': how many values and letters a reading holds, each counted each time it is reached (what is shared counts as often as it is met; a slice's spare places count too). A statement '..UptoSaid' is the law's where the arguments, and the package variables that the reading takes, are together of bulk at most 1048576: NARROWER than '..Said'. Prove '..Said' where nothing that the law and all that it calls make is longer than what came in: it says more and counts as full. Else prove '..UptoSaid'. A law counts once. -/
mutual
def uptoBulk {H : Type} : DataW H → Nat
  | .lit (.string bytes) => bytes.length + 1
  | .lit _ => 1
  | .nil => 1
  | .ptr d => uptoBulk d + 1
  | .slice elems spare => uptoBulkAll elems + uptoBulkAll spare + 1
  | .agg parts => uptoBulkAll parts + 1
  | .iface _ d => uptoBulk d + 1
  | .map entries => uptoBulkEntries entries + 1
  | .held _ => 1
def uptoBulkAll {H : Type} : List (DataW H) → Nat
  | [] => 0
  | d :: r => uptoBulk d + uptoBulkAll r
def uptoBulkEntries {H : Type} : List (Lit × DataW H) → Nat
  | [] => 0
  | x :: r => uptoBulkEntry x + uptoBulkEntries r
def uptoBulkEntry {H : Type} : Lit × DataW H → Nat
  | (.string bytes, d) => bytes.length + uptoBulk d + 1
  | (_, d) => uptoBulk d + 1
 end
def uptoSmall : (H : Type) → List (DataW H) → Bool := fun _ ds => decide (uptoBulkAll ds ≤ 1048576)
def OpenSpec.upto (s : _root_.Go.ChangeSpec) : _root_.Go.OpenSpec := { _root_.Go.OpenSpec.ofChange s with cond := some uptoSmall }

/-- 'pneumaticlaw14.IndexExact', WHERE WHAT IT READS IS OF BULK AT MOST 1048576: true; the input reads as it did. -/
def indexExactUptoRow : OpenClaim := { program := "ytfempihpphbgmaagreat", sum := "f18eb40cdf0208d2667ded73d53848cff4fa646fcf514cd1a6c9022b46c071b9", func := "pneumatic/pneumaticlaw14.IndexExact", spec := "indexExact", inPlace := ["internal/bytealg.abigen_runtime_cmpstring", "slices.overlaps[pneumatic/index.entry]"], unfollowed := true, recurses := true, apart := false, narrowed := true }
def IndexExactUptoSaid : Prop := indexExactUptoRow.holds Tryz.pinned (OpenSpec.upto indexExactSpec)

/-- 'pneumaticlaw14.IndexBoth', WHERE WHAT IT READS IS OF BULK AT MOST 1048576: true; the input reads as it did. -/
def indexBothUptoRow : OpenClaim := { program := "ytfempihpphbgmaagreat", sum := "f18eb40cdf0208d2667ded73d53848cff4fa646fcf514cd1a6c9022b46c071b9", func := "pneumatic/pneumaticlaw14.IndexBoth", spec := "indexBoth", inPlace := ["internal/bytealg.abigen_runtime_cmpstring", "slices.overlaps[pneumatic/index.entry]"], unfollowed := true, recurses := true, apart := false, narrowed := true }
def IndexBothUptoSaid : Prop := indexBothUptoRow.holds Tryz.pinned (OpenSpec.upto indexBothSpec)

/-- 'pneumaticlaw14.IndexSets', WHERE WHAT IT READS IS OF BULK AT MOST 1048576: true; the input reads as it did. -/
def indexSetsUptoRow : OpenClaim := { program := "ytfempihpphbgmaagreat", sum := "f18eb40cdf0208d2667ded73d53848cff4fa646fcf514cd1a6c9022b46c071b9", func := "pneumatic/pneumaticlaw14.IndexSets", spec := "indexSets", inPlace := ["internal/bytealg.abigen_runtime_cmpstring", "slices.overlaps[pneumatic/index.entry]"], unfollowed := true, recurses := true, apart := false, narrowed := true }
def IndexSetsUptoSaid : Prop := indexSetsUptoRow.holds Tryz.pinned (OpenSpec.upto indexSetsSpec)

/-- 'pneumaticlaw14.IndexPlays', WHERE WHAT IT READS IS OF BULK AT MOST 1048576: true; the input reads as it did. -/
def indexPlaysUptoRow : OpenClaim := { program := "ytfempihpphbgmaagreat", sum := "f18eb40cdf0208d2667ded73d53848cff4fa646fcf514cd1a6c9022b46c071b9", func := "pneumatic/pneumaticlaw14.IndexPlays", spec := "indexPlays", inPlace := ["internal/bytealg.abigen_runtime_cmpstring", "slices.overlaps[pneumatic/index.entry]", "maps.clone"], unfollowed := true, recurses := true, apart := false, narrowed := true }
def IndexPlaysUptoSaid : Prop := indexPlaysUptoRow.holds Tryz.pinned (OpenSpec.upto indexPlaysSpec)

/-- 'pneumaticlaw14.IndexKnown', WHERE WHAT IT READS IS OF BULK AT MOST 1048576: true; the input reads as it did. -/
def indexKnownUptoRow : OpenClaim := { program := "ytfempihpphbgmaagreat", sum := "f18eb40cdf0208d2667ded73d53848cff4fa646fcf514cd1a6c9022b46c071b9", func := "pneumatic/pneumaticlaw14.IndexKnown", spec := "indexKnown", inPlace := ["internal/bytealg.abigen_runtime_cmpstring", "slices.overlaps[pneumatic/index.entry]", "maps.clone"], unfollowed := true, recurses := true, apart := false, narrowed := true }
def IndexKnownUptoSaid : Prop := indexKnownUptoRow.holds Tryz.pinned (OpenSpec.upto indexKnownSpec)

end Rows
end Go.Proofs.YtfempihpphbgmaaGreat
