/-
  What the abstract machine asks of the program; a world in which the listed package-level variables hold what the program's text lays.
  The part of 'BookOwn' that asks the document's examples: run whole by the abstract machine.
-/
import Derived.Test.YtdknlbnljfdhgaaGreatDoorRows
import Derived.Test.YtdknlbnljfdhgaaGreatDoorAmFast
import Derived.ChangeSame
import Derived.ChangeVars
import Derived.JoinedOf
import Derived.RowKit
import Derived.LaidLaws
import Derived.Lib.LaidTab
import Derived.WalkKit
import Derived.ProofKit
import Derived.OpenShut
noncomputable section
namespace Go.Proofs.YtdknlbnljfdhgaaGreatDoor.laid
open Go Go.Am Go.ChangeShapes Go.WideShapes Go.ChangeAt Go.RowKit
abbrev P:Program:=Tryz.prog
abbrev L:List (String×DataW Unit):=Rows.bookOwnRow.laid
def A0:Am.Ask:={
 eqs:=[100,52,38,37],
 exts:=[(287,.rT)],
 fQ:=[55,161] }
theorem own:ownKnob P.godebug=none:=by kernel_rfl
theorem names:P.funcs.toList.all (fun fn=>!(fn.name == "runtime.NumGoroutine"))=true:=by kernel_rfl
theorem stoods:([100,52,38,37].all fun t=>!P.stoodInHeld t && !P.eqGuardType P.depth t&&(P.fieldsOf t).toList.all (fun f=>!(f.name == "_")))=true:=by kernel_rfl
theorem run287 (a:ByteArray) (c:Int) (w:World):(callFunc 287 #[.string a,.int .u8 c]).run P w=((Extern.BytealgIndexByte.indexByte #[.string a,.int .u8 c]).run P w).andThen fun v w'=>.ok (.value v) w':=by
 have h:(callFunc 287 #[.string a,.int .u8 c]).run P w=((do pure (.value (←Extern.BytealgIndexByte.indexByte #[.string a,.int .u8 c])):Sem Next)).run P w:=by kernel_rfl
 rw[h];simp only[Sem.run_bind,Sem.run_pure]
theorem ext287 (a:ByteArray) (c:Nat) (w:World) (hc:c<256):(callFunc 287 #[.string a,.int .u8 c]).run P w=.ok (.value (match Am.u6 c (a.data.toList.map UInt8.toNat) 0 with|some n=>.int .i64 n|none=>.int .i64 (-1))) w:=by
 have k:=Am.yS a c hc;rw[run287,run_indexByte_string];cases h:Am.u6 c (a.data.toList.map UInt8.toNat) 0 with
 | none=>rw[h] at k;rw[k];rfl
 | some n=>rw[h] at k;rw[k];rfl
theorem ready (A:Am.Ask) (h1:A.eqs=A0.eqs) (h2:∀ x,x∈A.exts→x∈A0.exts):Am.nC P A:=by
 refine ⟨by kernel_rfl,fun t h=>?_,Am.enters_ok names,fun x h=>?_⟩
 ·rw[h1] at h;have:=List.all_eq_true.1 stoods t h;simp only[Bool.and_eq_true,Bool.not_eq_true'] at this;refine ⟨this.1.1,this.1.2,fun f hf=>?_⟩;have:=List.all_eq_true.1 this.2 f hf;simpa using this
 ·have h:=h2 x h;simp only[A0,List.mem_cons,List.not_mem_nil,or_false] at h;obtain rfl:=h
  ·exact ext287
def rangesZ:List Nat:=[128,191,160,191,128,159,144,191,128,143,0,0,0,0,0,0,0,0,0,0,0,0,0,0,0,0,0,0,0,0,0,0]
def zP (os:Os):World:=
 let w0:=World.holding P os ⟨#[],#[],[]⟩
 { w0 with heap := ((w0.heap.modify 0 fun
     | .cells _ t frozen=>.cells (Go.Pinned.utf8FirstZ.map fun (n:Nat)=>Value.int .u8 (n:Int)).toArray t frozen
     | o=>o).modify 1 fun
     | .cells _ t frozen=>.cells (rangesZ.map fun (n:Nat)=>Value.int .u8 (n:Int)).toArray t frozen
     | o=>o) }
theorem yK (os:Os) (args:Array Value):laidMet P L ((zP os).forCall (fun _ _=>0) ⟨#[],args,[]⟩).memory:=
 laidMet_of_run' 8 (by kernel_rfl) (by kernel_rfl)
end Go.Proofs.YtdknlbnljfdhgaaGreatDoor.laid
namespace Go.Proofs.YtdknlbnljfdhgaaGreatDoor.aw
open Go Go.RowKit
theorem answer:true=Am.CX Tryz.prog laid.A0 1000000 12 true:=by kernel_rfl
theorem walk (W:World):Calls Tryz.prog 12 #[] W fun e w'=>e=.returned (.bool true)∧Below W.heap.size W w':=
 Am.call_fast0 (laid.ready laid.A0 rfl (fun _ h=>h)) (fun _ x hx=>by cases hx) rfl 1000000 12 true answer W
def A1:Am.Ask:={ laid.A0 with bG:=[(12,Am.mw true)] }
theorem bG (Λ:Am.LB):∀ x,x∈A1.bG→Am.fP Λ Tryz.prog x.1 x.2:=by
 intro x hx;simp only[A1,List.mem_cons,List.not_mem_nil,or_false] at hx;subst hx;exact Am.xZ Tryz.func12 rfl walk
end Go.Proofs.YtdknlbnljfdhgaaGreatDoor.aw
end
