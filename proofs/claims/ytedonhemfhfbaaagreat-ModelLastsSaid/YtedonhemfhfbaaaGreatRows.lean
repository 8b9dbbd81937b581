/-
  No cell of these rows narrows 'for every input' (looked for: loops, veiled, ifaces, maps, wideKeys, modest, calm, conditions, laid).
  DERIVED. THE GIVEN ROWS OF THIS SEAT. 5 by the template 'for every input the law returns true; each argument reads behind the call as it read before'; 0 by the template 'total and deterministic' (their statements: YtedonhemfhfbaaaGreatTotals.lean).
  GIVEN WITH THE SEED: the statements are not yours to turn. If you find one false, say at which input.
  Laid BY PROGRAM, IN A SANDBOX (cutbox-rows.mjs): the forced cells as the released guide's own fill.sh prints them over the translation 3f9f3d379a825b4c… (all of the seat's roots in one cut). By AI agents, Wed Nov 11 2026. No macro, syntax, notation, axiom, sorry.
-/
import Derived.Test.YtedonhemfhfbaaaGreatChecked
import GoSem.Claim
import GoSem.ClaimJoined
import GoSem.ClaimMapViews
import Derived.JoinedTies
import Derived.KernelRfl
namespace Go.Proofs.YtedonhemfhfbaaaGreat
/- THE CELL 'sum', in the pinned program and in every row, IS THE sha256 OF THE DUMP (.gsa) THAT YtedonhemfhfbaaaGreatProg.lean LOADS. Nothing in Lean hashes anything: it is a label: what it is worth is what the hold of that sum in a sandbox is worth. -/
noncomputable def Tryz.pinned : Pinned := { name := "ytedonhemfhfbaaagreat", sum := "3f9f3d379a825b4c7af8153856d3b7703be8b70fc73364a2bc06fc04ca8aaa7a", checked := Tryz.checked }
namespace Rows
def none {H : Type} : Left H := { results := [], args := [] }

/-- 'pneumaticlaw29.ModelAll': WHATEVER THE INPUT: true; the input reads as it did. -/
def modelAllSpec : ChangeSpec := { name := "modelAll", fn := fun _ => fun
  | [d1, d2, d3] => { results := [.lit (.bool true)], args := [d1, d2, d3] }
  | _ => none }
def modelAllRow : OpenClaim := { program := "ytedonhemfhfbaaagreat", sum := "3f9f3d379a825b4c7af8153856d3b7703be8b70fc73364a2bc06fc04ca8aaa7a", func := "pneumatic/pneumaticlaw29.ModelAll", spec := "modelAll", inPlace := ["internal/bytealg.abigen_runtime_cmpstring"], unfollowed := true, recurses := true, apart := false }
def ModelAllSaid : Prop := modelAllRow.holds Tryz.pinned (OpenSpec.ofChange modelAllSpec)

/-- ITS FALSE NEIGHBOUR: 'it returns false'. Refute it at one input. -/
def modelAllWrong : ChangeSpec := { name := "modelAll", fn := fun _ => fun
  | [d1, d2, d3] => { results := [.lit (.bool false)], args := [d1, d2, d3] }
  | _ => none }
def ModelAllWrongFalsely : Prop := modelAllRow.holds Tryz.pinned (OpenSpec.ofChange modelAllWrong)

/-- 'pneumaticlaw29.ModelOwn': WHATEVER THE INPUT: true; the input reads as it did. -/
def modelOwnSpec : ChangeSpec := { name := "modelOwn", fn := fun _ => fun
  | [d] => { results := [.lit (.bool true)], args := [d] }
  | _ => none }
def modelOwnRow : OpenClaim := { program := "ytedonhemfhfbaaagreat", sum := "3f9f3d379a825b4c7af8153856d3b7703be8b70fc73364a2bc06fc04ca8aaa7a", func := "pneumatic/pneumaticlaw29.ModelOwn", spec := "modelOwn", inPlace := ["internal/bytealg.abigen_runtime_cmpstring"], unfollowed := true, recurses := true, apart := false }
def ModelOwnSaid : Prop := modelOwnRow.holds Tryz.pinned (OpenSpec.ofChange modelOwnSpec)

/-- ITS FALSE NEIGHBOUR: 'it returns false'. Refute it at one input. -/
def modelOwnWrong : ChangeSpec := { name := "modelOwn", fn := fun _ => fun
  | [d] => { results := [.lit (.bool false)], args := [d] }
  | _ => none }
def ModelOwnWrongFalsely : Prop := modelOwnRow.holds Tryz.pinned (OpenSpec.ofChange modelOwnWrong)

/-- 'pneumaticlaw29.ModelOnce': WHATEVER THE INPUT: true; the input reads as it did. -/
def modelOnceSpec : ChangeSpec := { name := "modelOnce", fn := fun _ => fun
  | [d1, d2, d3, d4, d5] => { results := [.lit (.bool true)], args := [d1, d2, d3, d4, d5] }
  | _ => none }
def modelOnceRow : OpenClaim := { program := "ytedonhemfhfbaaagreat", sum := "3f9f3d379a825b4c7af8153856d3b7703be8b70fc73364a2bc06fc04ca8aaa7a", func := "pneumatic/pneumaticlaw29.ModelOnce", spec := "modelOnce", inPlace := ["internal/bytealg.abigen_runtime_cmpstring"], unfollowed := true, recurses := true, apart := false }
def ModelOnceSaid : Prop := modelOnceRow.holds Tryz.pinned (OpenSpec.ofChange modelOnceSpec)

/-- ITS FALSE NEIGHBOUR: 'it returns false'. Refute it at one input. -/
def modelOnceWrong : ChangeSpec := { name := "modelOnce", fn := fun _ => fun
  | [d1, d2, d3, d4, d5] => { results := [.lit (.bool false)], args := [d1, d2, d3, d4, d5] }
  | _ => none }
def ModelOnceWrongFalsely : Prop := modelOnceRow.holds Tryz.pinned (OpenSpec.ofChange modelOnceWrong)

/-- 'pneumaticlaw29.ModelLasts': WHATEVER THE INPUT: true; the input reads as it did. -/
def modelLastsSpec : ChangeSpec := { name := "modelLasts", fn := fun _ => fun
  | [d] => { results := [.lit (.bool true)], args := [d] }
  | _ => none }
def modelLastsRow : OpenClaim := { program := "ytedonhemfhfbaaagreat", sum := "3f9f3d379a825b4c7af8153856d3b7703be8b70fc73364a2bc06fc04ca8aaa7a", func := "pneumatic/pneumaticlaw29.ModelLasts", spec := "modelLasts", inPlace := ["internal/bytealg.abigen_runtime_cmpstring"], unfollowed := true, recurses := true, apart := false }
def ModelLastsSaid : Prop := modelLastsRow.holds Tryz.pinned (OpenSpec.ofChange modelLastsSpec)

/-- ITS FALSE NEIGHBOUR: 'it returns false'. Refute it at one input. -/
def modelLastsWrong : ChangeSpec := { name := "modelLasts", fn := fun _ => fun
  | [d] => { results := [.lit (.bool false)], args := [d] }
  | _ => none }
def ModelLastsWrongFalsely : Prop := modelLastsRow.holds Tryz.pinned (OpenSpec.ofChange modelLastsWrong)

/-- 'pneumaticlaw29.ModelPlays': WHATEVER THE INPUT: true; the input reads as it did. -/
def modelPlaysSpec : ChangeSpec := { name := "modelPlays", fn := fun _ => fun
  | [d] => { results := [.lit (.bool true)], args := [d] }
  | _ => none }
def modelPlaysRow : OpenClaim := { program := "ytedonhemfhfbaaagreat", sum := "3f9f3d379a825b4c7af8153856d3b7703be8b70fc73364a2bc06fc04ca8aaa7a", func := "pneumatic/pneumaticlaw29.ModelPlays", spec := "modelPlays", inPlace := ["maps.clone", "internal/bytealg.abigen_runtime_cmpstring"], unfollowed := true, recurses := true, apart := false }
def ModelPlaysSaid : Prop := modelPlaysRow.holds Tryz.pinned (OpenSpec.ofChange modelPlaysSpec)

/-- ITS FALSE NEIGHBOUR: 'it returns false'. Refute it at one input. -/
def modelPlaysWrong : ChangeSpec := { name := "modelPlays", fn := fun _ => fun
  | [d] => { results := [.lit (.bool false)], args := [d] }
  | _ => none }
def ModelPlaysWrongFalsely : Prop := modelPlaysRow.holds Tryz.pinned (OpenSpec.ofChange modelPlaysWrong)

/- THE SECOND FORM. 'bulk': how many values and letters a reading holds, each counted each time it is reached (what is shared counts as often as it is met; a slice's spare places count too). A statement '..UptoSaid' is the law's where the arguments, and the package variables that the reading takes, are together of bulk at most 1048576: NARROWER than '..Said'. Prove '..Said' where nothing that the law and all that it calls make is longer than what came in: it says more and counts as full. Else prove '..UptoSaid'. A law counts once. -/
mutual
def uptoBulk {H : Type} : DataW H → Nat
  | .lit (.string bytes) => bytes.length + 1
  | .lit _ => 1
  | .nil => 1
  | .ptr d => uptoBulk d + 1
  | .slice elems spare => uptoBulkAll elems + uptoBulkAll spare + 1
  | .agg parts => uptoBulkAll parts + 1
  | .iface _ d => uptoBulk d + 1
  | .map entries => uptoBulkEntries entries + 1
  | .held _ => 1
def uptoBulkAll {H : Type} : List (DataW H) → Nat
  | [] => 0
  | d :: r => uptoBulk d + uptoBulkAll r
def uptoBulkEntries {H : Type} : List (Lit × DataW H) → Nat
  | [] => 0
  | x :: r => uptoBulkEntry x + uptoBulkEntries r
def uptoBulkEntry {H : Type} : Lit × DataW H → Nat
  | (.string bytes, d) => bytes.length + uptoBulk d + 1
  | (_, d) => uptoBulk d + 1
 end
def uptoSmall : (H : Type) → List (DataW H) → Bool := fun _ ds => decide (uptoBulkAll ds ≤ 1048576)
def OpenSpec.upto (s : _root_.Go.ChangeSpec) : _root_.Go.OpenSpec := { _root_.Go.OpenSpec.ofChange s with cond := some uptoSmall }

/-- 'pneumaticlaw29.ModelAll', WHERE WHAT IT READS IS OF BULK AT MOST 1048576: true; the input reads as it did. -/
def modelAllUptoRow : OpenClaim := { program := "ytedonhemfhfbaaagreat", sum := "3f9f3d379a825b4c7af8153856d3b7703be8b70fc73364a2bc06fc04ca8aaa7a", func := "pneumatic/pneumaticlaw29.ModelAll", spec := "modelAll", inPlace := ["internal/bytealg.abigen_runtime_cmpstring"], unfollowed := true, recurses := true, apart := false, narrowed := true }
def ModelAllUptoSaid : Prop := modelAllUptoRow.holds Tryz.pinned (OpenSpec.upto modelAllSpec)

/-- 'pneumaticlaw29.ModelOwn', WHERE WHAT IT READS IS OF BULK AT MOST 1048576: true; the input reads as it did. -/
def modelOwnUptoRow : OpenClaim := { program := "ytedonhemfhfbaaagreat", sum := "3f9f3d379a825b4c7af8153856d3b7703be8b70fc73364a2bc06fc04ca8aaa7a", func := "pneumatic/pneumaticlaw29.ModelOwn", spec := "modelOwn", inPlace := ["internal/bytealg.abigen_runtime_cmpstring"], unfollowed := true, recurses := true, apart := false, narrowed := true }
def ModelOwnUptoSaid : Prop := modelOwnUptoRow.holds Tryz.pinned (OpenSpec.upto modelOwnSpec)

/-- 'pneumaticlaw29.ModelOnce', WHERE WHAT IT READS IS OF BULK AT MOST 1048576: true; the input reads as it did. -/
def modelOnceUptoRow : OpenClaim := { program := "ytedonhemfhfbaaagreat", sum := "3f9f3d379a825b4c7af8153856d3b7703be8b70fc73364a2bc06fc04ca8aaa7a", func := "pneumatic/pneumaticlaw29.ModelOnce", spec := "modelOnce", inPlace := ["internal/bytealg.abigen_runtime_cmpstring"], unfollowed := true, recurses := true, apart := false, narrowed := true }
def ModelOnceUptoSaid : Prop := modelOnceUptoRow.holds Tryz.pinned (OpenSpec.upto modelOnceSpec)

/-- 'pneumaticlaw29.ModelLasts', WHERE WHAT IT READS IS OF BULK AT MOST 1048576: true; the input reads as it did. -/
def modelLastsUptoRow : OpenClaim := { program := "ytedonhemfhfbaaagreat", sum := "3f9f3d379a825b4c7af8153856d3b7703be8b70fc73364a2bc06fc04ca8aaa7a", func := "pneumatic/pneumaticlaw29.ModelLasts", spec := "modelLasts", inPlace := ["internal/bytealg.abigen_runtime_cmpstring"], unfollowed := true, recurses := true, apart := false, narrowed := true }
def ModelLastsUptoSaid : Prop := modelLastsUptoRow.holds Tryz.pinned (OpenSpec.upto modelLastsSpec)

/-- 'pneumaticlaw29.ModelPlays', WHERE WHAT IT READS IS OF BULK AT MOST 1048576: true; the input reads as it did. -/
def modelPlaysUptoRow : OpenClaim := { program := "ytedonhemfhfbaaagreat", sum := "3f9f3d379a825b4c7af8153856d3b7703be8b70fc73364a2bc06fc04ca8aaa7a", func := "pneumatic/pneumaticlaw29.ModelPlays", spec := "modelPlays", inPlace := ["maps.clone", "internal/bytealg.abigen_runtime_cmpstring"], unfollowed := true, recurses := true, apart := false, narrowed := true }
def ModelPlaysUptoSaid : Prop := modelPlaysUptoRow.holds Tryz.pinned (OpenSpec.upto modelPlaysSpec)

end Rows
end Go.Proofs.YtedonhemfhfbaaaGreat
