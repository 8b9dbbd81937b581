/-
  What the abstract machine asks of the program; a world in which the listed package-level variables hold what the program's text lays.
-/
import Derived.Test.YtdknlbnljfdhgaaGreatDoorRows
import Derived.Test.YtdknlbnljfdhgaaGreatDoorAmTop
import Derived.ChangeSame
import Derived.ChangeVars
import Derived.JoinedOf
import Derived.RowKit
import Derived.LaidLaws
import Derived.Lib.LaidTab
import Derived.WalkKit
import Derived.ProofKit
import Derived.OpenShut
import Derived.Test.YtdknlbnljfdhgaaGreatDoorPartA
import Derived.Test.YtdknlbnljfdhgaaGreatDoorPartC
noncomputable section
namespace Go.Proofs.YtdknlbnljfdhgaaGreatDoor.laid
open Go Go.Am Go.ChangeShapes Go.WideShapes Go.ChangeAt Go.RowKit
abbrev P:Program:=Tryz.prog
abbrev L:List (String×DataW Unit):=Rows.bookAgainRow.laid
def A0:Am.Ask:={
 eqs:=[100,52,38,37],
 exts:=[(287,.idxByte)],
 jS:=[55,161]}
theorem own:ownKnob P.godebug=none:=by kernel_rfl
theorem names:P.funcs.toList.all (fun fn=>!(fn.name == "runtime.NumGoroutine"))=true:=by kernel_rfl
theorem stoods:([100,52,38,37].all fun t=>!P.stoodInHeld t && !P.eqGuardType P.depth t&&(P.fieldsOf t).toList.all (fun f=>!(f.name == "_")))=true:=by kernel_rfl
theorem run287(a:ByteArray)(c:Int)(w:World):(callFunc 287 #[.string a,.int .u8 c]).run P w=((Extern.BytealgIndexByte.indexByte #[.string a,.int .u8 c]).run P w).andThen fun v w'=>.ok (.value v) w':=by
 have h:(callFunc 287 #[.string a,.int .u8 c]).run P w=((do pure (.value (<-Extern.BytealgIndexByte.indexByte #[.string a,.int .u8 c])):Sem Next)).run P w:=by kernel_rfl
 rw[h];simp only[Sem.run_bind,Sem.run_pure]
theorem ext287(a:ByteArray)(c:Nat)(w:World)(hc:c<256):(callFunc 287 #[.string a,.int .u8 c]).run P w=.ok (.value (match Am.EA c (a.data.toList.map UInt8.toNat) 0 with|some n=>.int .i64 n|none=>.int .i64 (-1))) w:=by
 have k:=Am.yT a c hc;rw[run287,run_indexByte_string];cases h:Am.EA c (a.data.toList.map UInt8.toNat) 0 with
 |none=>rw[h]at k;rw[k];rfl
 |some n=>rw[h]at k;rw[k];rfl
theorem ready(A:Am.Ask)(h1:A.eqs=A0.eqs)(h2:∀x,x∈A.exts->x∈A0.exts):Am.vd P A:=by
 refine⟨by kernel_rfl,fun t h=>?_,Am.enters_ok names,fun x h=>?_⟩
 .rw[h1]at h;have:=List.all_eq_true.1 stoods t h;simp only[Bool.and_eq_true,Bool.not_eq_true']at this;refine⟨this.1.1,this.1.2,fun f hf=>?_⟩;have:=List.all_eq_true.1 this.2 f hf;simpa using this
 .have h:=h2 x h;simp only[A0,List.mem_cons,List.not_mem_nil,or_false]at h;obtain rfl:=h
  .exact ext287
def rangesZ:List Nat:=[128,191,160,191,128,159,144,191,128,143,0,0,0,0,0,0,0,0,0,0,0,0,0,0,0,0,0,0,0,0,0,0]
def zU(os:Os):World:=
 let w0:=World.holding P os ⟨#[],#[],[]⟩
 { w0 with heap := ((w0.heap.modify 0 fun
     | .cells _ t frozen=>.cells (Go.Pinned.utf8FirstZ.map fun (n:Nat)=>Value.int .u8 (n:Int)).toArray t frozen
     |o=>o).modify 1 fun
     | .cells _ t frozen=>.cells (rangesZ.map fun (n:Nat)=>Value.int .u8 (n:Int)).toArray t frozen
     |o=>o)}
theorem yK(os:Os)(args:Array Value):laidMet P L ((zU os).forCall (fun _ _=>0) ⟨#[],args,[]⟩).memory:=
 laidMet_of_run' 8 (by kernel_rfl) (by kernel_rfl)
end Go.Proofs.YtdknlbnljfdhgaaGreatDoor.laid
namespace Go.Proofs.YtdknlbnljfdhgaaGreatDoor.run
open Go Go.Am
set_option linter.unusedVariables false
set_option linter.unusedSimpArgs false
def two{κ:Type}(ok:dg->Bool)(key:dg->κ)(le:κ->κ->Bool)(clock:Nat)(es:List dg):Option (List κ):=match es with
 |[]=>some []
 |[x]=>cond (Nat.blt x.born clock&&ok x) (some [key x]) none
 |[x,y]=>cond (Nat.blt x.born clock&&ok x&&Nat.blt y.born clock&&ok y && !Nat.beq x.born y.born)
  (cond (le (key x) (key y)) (cond (le (key y) (key x)) none (some [key x,key y])) (cond (le (key y) (key x)) (some [key y,key x]) none)) none
 |_=>none
theorem Dd{κ:Type}{ok:dg->Bool}{key:dg->κ}{le:κ->κ->Bool}{clock:Nat}{es:List dg}{r:List κ}(h:two ok key le clock es=some r)(hr:∀a,le a a=true):
  nf es clock/\(∀e,e∈es->ok e=true)/\(es.map key).Nodup/\es.length<=1048576/\(es.map key).mergeSort le=r:=by
 unfold two at h;split at h
 .cases h;simp[nf]
 .rename_i x;cases hb:(Nat.blt x.born clock&&ok x)with
  |false=>rw[hb]at h;cases h
  |true=>
   rw[hb]at h;cases h;simp only[Bool.and_eq_true,gH,decide_eq_true_eq]at hb;simp[nf,hb]
 .rename_i x y;cases hb:(Nat.blt x.born clock&&ok x&&Nat.blt y.born clock&&ok y && !Nat.beq x.born y.born)with
  |false=>rw[hb]at h;cases h
  |true=>
   rw[hb,cond_true]at h;simp only[Bool.and_eq_true,gH,bF,decide_eq_true_eq,Bool.not_eq_true',decide_eq_false_iff_not]at hb;cases h1:le (key x) (key y)<;>cases h2:le (key y) (key x)<;>rw[h1,h2]at h<;>cases h
   .have hk:key x≠key y:=fun e=>by rw[e,hr]at h1;cases h1
    simp[nf,hb,hk,List.mergeSort,List.MergeSort.Internal.splitInTwo,List.merge,h1]
   .have hk:key x≠key y:=fun e=>by rw[e,hr]at h2;cases h2
    simp[nf,hb,hk,List.mergeSort,List.MergeSort.Internal.splitInTwo,List.merge,h1]
 .cases h
def ask{κ:Type}(f t:Nat)(g:Nat->List dg->Option (List κ))(out:AS->List κ->AV×AS)(vs:List AV)(S:AS):Option (AV×AS):=match vs with
 |[.func (.func f') [] [.ptr bx g' o l]]=>cond (Nat.beq f' f&&Nat.beq g' 0&&Nat.beq o 0&&Nat.beq l 1) (match S.h.get bx with
  |some (.row [.map mi] low top frz t')=>cond (Nat.beq low 0&&Nat.beq top 0 && !frz&&Nat.beq t' t) (match S.h.get mi with
   |some (.map es clock)=>match g clock es with
    |some l=>some (out S l)
    |none=>none
   |_=>none) none
  |_=>none) none
 |_=>none
theorem FL{κ:Type}{f t:Nat}{g:Nat->List dg->Option (List κ)}{out:AS->List κ->AV×AS}{vs:List AV}{S:AS}{r:AV×AS}(h:ask f t g out vs S=some r):
  ∃bx mi clock es l,vs=[.func (.func f) [] [.ptr bx 0 0 1]]/\S.h.get bx=some (.row [.map mi] 0 0 false t)/\S.h.get mi=some (.map es clock)/\g clock es=some l/\r=out S l:=by
 unfold ask at h;split at h
 .rename_i f' bx g' o l;cases hb:(Nat.beq f' f&&Nat.beq g' 0&&Nat.beq o 0&&Nat.beq l 1)with
  |false=>rw[hb]at h;cases h
  |true=>
   rw[hb,cond_true]at h;simp only[Bool.and_eq_true,bF,decide_eq_true_eq]at hb;obtain⟨⟨⟨rfl,rfl⟩,rfl⟩,rfl⟩:=hb;split at h
   .rename_i mi low top frz t' h1;cases hc:(Nat.beq low 0&&Nat.beq top 0 && !frz&&Nat.beq t' t)with
    |false=>rw[hc]at h;cases h
    |true=>
     rw[hc,cond_true]at h;simp only[Bool.and_eq_true,bF,decide_eq_true_eq,Bool.not_eq_true']at hc;obtain⟨⟨⟨rfl,rfl⟩,rfl⟩,rfl⟩:=hc;split at h
     .rename_i es clock h2;split at h
      .rename_i l h3;cases h;exact⟨bx,mi,clock,es,l,rfl,h1,h2,h3,rfl⟩
      .cases h
     .cases h
   .cases h
 .cases h
def Ed(e:dg):Bool:=match e.key with | .str s=>Nat.ble s.length 1048576|_=>false
def okN(e:dg):Bool:=match e.key with | .int .i64 (.ofNat n)=>Nat.blt n 9223372036854775808|_=>false
def q55:List AV->AS->Option (AV×AS):=ask 123 127 (two Ed seg.pz seg.leS) seg.zK
def qG:List AV->AS->Option (AV×AS):=ask 202 164 (two okN srt.rE Nat.ble) srt.out161
theorem Bh{Λ:LB}:fw Λ Tryz.prog 55 q55:=by
 intro ρ vs S w args v S' hR hl hq;obtain⟨bx,mi,clock,es,l,rfl,h1,h2,h3,h4⟩:=FL hq;obtain⟨k1,k2,k3,k4,k5⟩:=Dd h3 fun a=>by unfold seg.leS;simp
 refine seg.Bh ρ _ S w args v S' hR hl ?_;rw[seg.q55_of ⟨bx,mi,clock,rfl,h1,h2,k1,fun e he=>?_,k3,k4⟩,h4,seg.iV,k5];have:=k2 e he;unfold Ed at this;unfold seg.pz;split at this
 .rename_i s hs;rw[cH,decide_eq_true_eq]at this;simp[hs,this]
 .cases this
theorem vC{Λ:LB}:fw Λ Tryz.prog 161 qG:=by
 intro ρ vs S w args v S' hR hl hq;obtain⟨bx,mi,clock,es,l,rfl,h1,h2,h3,h4⟩:=FL hq;obtain⟨k1,k2,k3,k4,k5⟩:=Dd h3 fun a=>by simp[cH]
 refine srt.vC ρ _ S w args v S' hR hl ?_;have e:(fun a b:Nat=>decide (a<=b))=Nat.ble:=by funext a b;rw[cH]
 rw[srt.Be ⟨bx,mi,clock,rfl,h1,h2,k1,fun e he=>?_,k3,k4⟩,h4,srt.iV,e,k5];have:=k2 e he;unfold okN at this;unfold srt.rE;split at this
 .rename_i s hs;rw[gH,decide_eq_true_eq]at this;rw[hs];exact⟨rfl,this⟩
 .cases this
open Go Go.Am Go.RowKit Go.Proofs.YtdknlbnljfdhgaaGreatDoor.dk
theorem rdy(A:Am.Ask)(h1:A.eqs=laid.A0.eqs)(h2:A.exts=[]):vd Tryz.prog A:=laid.ready A h1 (fun x hx=>by rw[h2]at hx;cases hx)
theorem prims1(Λ:LB):∀x,x∈A1.dE->fw Λ Tryz.prog x.1 x.2:=by
 intro x hx;simp only[List.mem_cons,List.not_mem_nil,or_false]at hx;rcases hx with rfl|rfl|rfl
 .exact seg.wakeQ_ok
 .exact seg.Bh
 .exact srt.vC
def q60(vs:List AV)(S:AS):Option (AV×AS):=match vs with
 |[.str s]=>cond (ew (fun c=>Nat.blt c 256) s&&Nat.ble s.length 1048576) (some (.bool (kf s),S)) none
 |_=>none
theorem prim60{Λ:LB}:fw Λ Tryz.prog 60 q60:=by
 refine zG (rdy A1 rfl rfl) (prims1 Λ) (fun x hx=>by cases hx) 1 fun vs S v S' hq=>?_;unfold q60 at hq;split at hq
 .rename_i s;cases hb:(ew (fun c=>Nat.blt c 256) s&&Nat.ble s.length 1048576)with
  |false=>rw[hb]at hq;cases hq
  |true=>
   rw[hb]at hq;cases hq;rw[Bool.and_eq_true,j4,cH,decide_eq_true_eq]at hb;exact⟨rfl,rfl,may93 (fun c hc=>by have:=hb.1 c hc;rwa [gH,decide_eq_true_eq]at this) hb.2⟩
 .cases hq
def FA(v:AV):Nat:=match v with | .int .u8 (.ofNat n)=>n|_=>256
def isByte(v:AV):Bool:=match v with | .int .u8 (.ofNat n)=>Nat.blt n 256|_=>false
theorem zX{v:AV}(h:isByte v=true):FA v<256/\v=.int .u8 (FA v:Nat):=by
 unfold isByte at h;unfold FA;split at h
 .rw[gH,decide_eq_true_eq]at h;exact⟨h,rfl⟩
 .cases h
def q189(vs:List AV)(S:AS):Option (AV×AS):=match vs with
 |[v]=>match jR S v with
  |some cs=>cond (isSl 1 v&&Nat.ble (aB v) S.next&&Nat.beq cs.length (sLen v)&&Nat.ble (sLen v) 1073741824&&ew isByte cs) (some (.int .u32 (.ofNat (jX (cs.map FA))),S)) none
  |none=>none
 |_=>none
theorem prim189{Λ:LB}:fw Λ Tryz.prog 189 q189:=by
 refine zG (rdy A1 rfl rfl) (prims1 Λ) (fun x hx=>by cases hx) 1 fun vs S v S' hq=>?_;unfold q189 at hq;split at hq
 .rename_i u;split at hq
  .rename_i cs hr;cases hb:(isSl 1 u&&Nat.ble (aB u) S.next&&Nat.beq cs.length (sLen u)&&Nat.ble (sLen u) 1073741824&&ew isByte cs)with
   |false=>rw[hb]at hq;cases hq
   |true=>
    rw[hb]at hq;cases hq;simp only[Bool.and_eq_true,j4,cH,bF,decide_eq_true_eq]at hb;obtain⟨⟨⟨⟨h1,h2⟩,h3⟩,h4⟩,h5⟩:=hb;have e:az (cs.map FA)=cs:=by
     unfold az;rw[List.map_map];exact (List.map_congr_left fun x hx=>(zX (h5 x hx)).2.symm).trans (List.map_id _)
    refine⟨rfl,rfl,sum126 ⟨h1,by rw[e];exact hr,by rw[aD,List.length_map,h3,Nat.mul_one],h2⟩ (fun c hc=>?_) (by rw[List.length_map,h3];exact h4)⟩;obtain⟨x,hx,rfl⟩:=List.mem_map.1 hc;exact (zX (h5 x hx)).1
  .cases hq
 .cases hq
end Go.Proofs.YtdknlbnljfdhgaaGreatDoor.run
namespace Go.Proofs.YtdknlbnljfdhgaaGreatDoor.aw
open Go Go.RowKit
def A0:Am.Ask:={laid.A0 with jS:=[],dE:=[(55,run.q55),(60,run.q60),(161,run.qG),(189,run.q189)]}
theorem prims0(Λ:Am.LB):∀x,x∈A0.dE->Am.fw Λ Tryz.prog x.1 x.2:=by
 intro x hx;simp only[A0,List.mem_cons,List.not_mem_nil,or_false]at hx;rcases hx with rfl|rfl|rfl|rfl
 .exact run.Bh
 .exact run.prim60
 .exact run.vC
 .exact run.prim189
theorem answer:true=Am.says Tryz.prog A0 1000000 12 true:=by kernel_rfl
theorem wakes:seg.AI:=fun _=>Am.boolQ_ok Tryz.func12 rfl fun W=>Am.call_slow0 (laid.ready A0 rfl (fun _ h=>h)) prims0 rfl 1000000 12 true answer W
end Go.Proofs.YtdknlbnljfdhgaaGreatDoor.aw
end
