/-
  What the abstract machine asks of the program; a world in which the listed package-level variables hold what the program's text lays.
-/
import Derived.Test.YtgkdgiognhbfjaaGreatDoorRows
import Derived.Test.YtgkdgiognhbfjaaGreatDoorAmFast
import Derived.ChangeSame
import Derived.ChangeVars
import Derived.JoinedOf
import Derived.RowKit
import Derived.LaidLaws
import Derived.Lib.LaidTab
import Derived.WalkKit
import Derived.ProofKit
import Derived.OpenShut
noncomputable section
namespace Go.Proofs.YtgkdgiognhbfjaaGreatDoor.laid
open Go Go.Am Go.ChangeShapes Go.WideShapes Go.ChangeAt Go.RowKit
abbrev P:Program:=Tryz.prog
abbrev L:List (String×DataW Unit):=Rows.seglogNumbersRow.laid
def A0:Am.Ask:={
 eqs:=[],
 exts:=[],
 iW:=[62] }
theorem own:ownKnob P.godebug=none:=by kernel_rfl
theorem names:P.funcs.toList.all (fun fn=>!(fn.name == "runtime.NumGoroutine"))=true:=by kernel_rfl
theorem ready (A:Am.Ask) (h1:A.eqs=A0.eqs) (h2:A.exts=A0.exts):Am.oD P A:=by
 refine ⟨by kernel_rfl,fun t h=>?_,Am.enters_ok names,fun x h=>?_⟩
 ·rw[h1] at h;cases h
 ·rw[h2] at h;cases h
def rangesZ:List Nat:=[128,191,160,191,128,159,144,191,128,143,0,0,0,0,0,0,0,0,0,0,0,0,0,0,0,0,0,0,0,0,0,0]
def yW (os:Os):World:=
 let w0:=World.holding P os ⟨#[],#[],[]⟩
 { w0 with heap := ((w0.heap.modify 0 fun
     | .cells _ t frozen=>.cells (Go.Pinned.utf8FirstZ.map fun (n:Nat)=>Value.int .u8 (n:Int)).toArray t frozen
     | o=>o).modify 1 fun
     | .cells _ t frozen=>.cells (rangesZ.map fun (n:Nat)=>Value.int .u8 (n:Int)).toArray t frozen
     | o=>o) }
theorem xV (os:Os) (args:Array Value):laidMet P L ((yW os).forCall (fun _ _=>0) ⟨#[],args,[]⟩).memory:=
 laidMet_of_run' 8 (by kernel_rfl) (by kernel_rfl)
end Go.Proofs.YtgkdgiognhbfjaaGreatDoor.laid
end
