/-
  What the abstract machine asks of the program; a world in which the listed package-level variables hold what the program's text lays.
-/
import Derived.Test.YtdknlbnljfdhgaaGreatDoorRows
import Derived.Test.YtdknlbnljfdhgaaGreatDoorAmTop
import Derived.ChangeSame
import Derived.ChangeVars
import Derived.JoinedOf
import Derived.RowKit
import Derived.LaidLaws
import Derived.Lib.LaidTab
import Derived.WalkKit
import Derived.ProofKit
import Derived.OpenShut
import Derived.Test.YtdknlbnljfdhgaaGreatDoorPartA
import Derived.Test.YtdknlbnljfdhgaaGreatDoorPartC
open Bool renaming and_eq_true->zza,not_eq_true'->zze
open Nat renaming beq->zzb,blt->zzc,ble->zzd
open List renaming not_mem_nil->zzf,mem_cons->zzg
set_option linter.unusedVariables false
set_option linter.unusedSimpArgs false
noncomputable section
namespace Go.Proofs.YtdknlbnljfdhgaaGreatDoor.laid
open Go Go.Am Go.ChangeShapes Go.WideShapes Go.ChangeAt Go.RowKit
abbrev P:Program:=Tryz.prog
abbrev L:List (String×DataW Unit):=Rows.bookLastsRow.laid
def A0:Am.Ask:={
 eqs:=[100,52,38,37],
 exts:=[(287,.MU)],
 kZ:=[55,161]}
theorem own:ownKnob P.godebug=none:=by kernel_rfl
theorem names:P.funcs.toList.all (fun fn=>!(fn.name == "runtime.NumGoroutine"))=true:=by kernel_rfl
theorem jcr:([100,52,38,37].all fun t=>!P.stoodInHeld t && !P.eqGuardType P.depth t&&(P.fieldsOf t).toList.all (fun f=>!(f.name == "_")))=true:=by kernel_rfl
theorem jcC(a:ByteArray)(c:Int)(w:World):(callFunc 287 #[.string a,.int .u8 c]).run P w=((Extern.BytealgIndexByte.indexByte #[.string a,.int .u8 c]).run P w).andThen fun v w'=>.ok (.value v) w':=by
 have h:(callFunc 287 #[.string a,.int .u8 c]).run P w=((do pure (.value (<-Extern.BytealgIndexByte.indexByte #[.string a,.int .u8 c])):Sem Next)).run P w:=by kernel_rfl
 rw[h];simp only[Sem.run_bind,Sem.run_pure]
theorem jeH(a:ByteArray)(c:Nat)(w:World)(hc:c<256):(callFunc 287 #[.string a,.int .u8 c]).run P w=.ok (.value (match Am.Hm c (a.data.toList.map UInt8.toNat) 0 with|some n=>.int .i64 n|none=>.int .i64 (-1))) w:=by
 have k:=Am.BR a c hc;rw[jcC,run_indexByte_string];cases h:Am.Hm c (a.data.toList.map UInt8.toNat) 0 with
 |none=>rw[h]at k;rw[k];rfl
 |some n=>rw[h]at k;rw[k];rfl
theorem ready(A:Am.Ask)(h1:A.eqs=A0.eqs)(h2:∀x,x∈A.exts->x∈A0.exts):Am.xM P A:=by
 refine⟨by kernel_rfl,fun t h=>?_,Am.Qn names,fun x h=>?_⟩
 .rw[h1]at h;have:=List.all_eq_true.1 jcr t h;simp only[zza,zze]at this;refine⟨this.1.1,this.1.2,fun f hf=>?_⟩;have:=List.all_eq_true.1 this.2 f hf;simpa using this
 .have h:=h2 x h;simp only[A0,zzg,zzf,or_false]at h;obtain rfl:=h
  .exact jeH
def Yf:List Nat:=[128,191,160,191,128,159,144,191,128,143,0,0,0,0,0,0,0,0,0,0,0,0,0,0,0,0,0,0,0,0,0,0]
def CJ(os:Os):World:=
 let w0:=World.holding P os ⟨#[],#[],[]⟩
 { w0 with heap := ((w0.heap.modify 0 fun
     | .cells _ t frozen=>.cells (Go.Pinned.utf8FirstZ.map fun (n:Nat)=>Value.int .u8 (n:Int)).toArray t frozen
     |o=>o).modify 1 fun
     | .cells _ t frozen=>.cells (Yf.map fun (n:Nat)=>Value.int .u8 (n:Int)).toArray t frozen
     |o=>o)}
theorem BH(os:Os)(args:Array Value):laidMet P L ((CJ os).forCall (fun _ _=>0) ⟨#[],args,[]⟩).memory:=
 laidMet_of_run' 8 (by kernel_rfl) (by kernel_rfl)
end Go.Proofs.YtdknlbnljfdhgaaGreatDoor.laid
namespace Go.Proofs.YtdknlbnljfdhgaaGreatDoor.run
open Go Go.Am
def two{κ:Type}(ok:dI->Bool)(key:dI->κ)(le:κ->κ->Bool)(clock:Nat)(es:List dI):Option (List κ):=match es with
 |[]=>some []
 |[x]=>cond (zzc x.born clock&&ok x) (some [key x]) none
 |[x,y]=>cond (zzc x.born clock&&ok x&&zzc y.born clock&&ok y && !Nat.beq x.born y.born)
  (cond (le (key x) (key y)) (cond (le (key y) (key x)) none (some [key x,key y])) (cond (le (key y) (key x)) (some [key y,key x]) none)) none
 |_=>none
theorem FY{κ:Type}{ok:dI->Bool}{key:dI->κ}{le:κ->κ->Bool}{clock:Nat}{es:List dI}{r:List κ}(h:two ok key le clock es=some r)(hr:∀a,le a a=true):
  pe es clock/\(∀e,e∈es->ok e=true)/\(es.map key).Nodup/\es.length<=1048576/\(es.map key).mergeSort le=r:=by
 unfold two at h;split at h
 .cases h;simp[pe]
 .rename_i x;cases hb:(zzc x.born clock&&ok x)with
  |false=>rw[hb]at h;cases h
  |true=>
   rw[hb]at h;cases h;simp only[zza,iJ,decide_eq_true_eq]at hb;simp[pe,hb]
 .rename_i x y;cases hb:(zzc x.born clock&&ok x&&zzc y.born clock&&ok y && !Nat.beq x.born y.born)with
  |false=>rw[hb]at h;cases h
  |true=>
   rw[hb,cond_true]at h;simp only[zza,iJ,bO,decide_eq_true_eq,zze,decide_eq_false_iff_not]at hb;cases h1:le (key x) (key y)<;>cases h2:le (key y) (key x)<;>rw[h1,h2]at h<;>cases h
   .have hk:key x≠key y:=fun e=>by rw[e,hr]at h1;cases h1
    simp[pe,hb,hk,List.mergeSort,List.MergeSort.Internal.splitInTwo,List.merge,h1]
   .have hk:key x≠key y:=fun e=>by rw[e,hr]at h2;cases h2
    simp[pe,hb,hk,List.mergeSort,List.MergeSort.Internal.splitInTwo,List.merge,h1]
 .cases h
def ask{κ:Type}(f t:Nat)(g:Nat->List dI->Option (List κ))(out:AS->List κ->AV×AS)(vs:List AV)(S:AS):Option (AV×AS):=match vs with
 |[.func (.func f') [] [.ptr bx g' o l]]=>cond (zzb f' f&&zzb g' 0&&zzb o 0&&zzb l 1) (match S.h.get bx with
  |some (.row [.map mi] low top frz t')=>cond (zzb low 0&&zzb top 0 && !frz&&zzb t' t) (match S.h.get mi with
   |some (.map es clock)=>match g clock es with
    |some l=>some (out S l)
    |none=>none
   |_=>none) none
  |_=>none) none
 |_=>none
theorem IG{κ:Type}{f t:Nat}{g:Nat->List dI->Option (List κ)}{out:AS->List κ->AV×AS}{vs:List AV}{S:AS}{r:AV×AS}(h:ask f t g out vs S=some r):
  ∃bx mi clock es l,vs=[.func (.func f) [] [.ptr bx 0 0 1]]/\S.h.get bx=some (.row [.map mi] 0 0 false t)/\S.h.get mi=some (.map es clock)/\g clock es=some l/\r=out S l:=by
 unfold ask at h;split at h
 .rename_i f' bx g' o l;cases hb:(zzb f' f&&zzb g' 0&&zzb o 0&&zzb l 1)with
  |false=>rw[hb]at h;cases h
  |true=>
   rw[hb,cond_true]at h;simp only[zza,bO,decide_eq_true_eq]at hb;obtain⟨⟨⟨rfl,rfl⟩,rfl⟩,rfl⟩:=hb;split at h
   .rename_i mi low top frz t' h1;cases hc:(zzb low 0&&zzb top 0 && !frz&&zzb t' t)with
    |false=>rw[hc]at h;cases h
    |true=>
     rw[hc,cond_true]at h;simp only[zza,bO,decide_eq_true_eq,zze]at hc;obtain⟨⟨⟨rfl,rfl⟩,rfl⟩,rfl⟩:=hc;split at h
     .rename_i es clock h2;split at h
      .rename_i l h3;cases h;exact⟨bx,mi,clock,es,l,rfl,h1,h2,h3,rfl⟩
      .cases h
     .cases h
   .cases h
 .cases h
def Ja(e:dI):Bool:=match e.key with | .str s=>zzd s.length 1048576|_=>false
def Xc(e:dI):Bool:=match e.key with | .int .i64 (.ofNat n)=>zzc n 9223372036854775808|_=>false
def J5:List AV->AS->Option (AV×AS):=ask 123 127 (two Ja seg.rl seg.Hg) seg.Cy
def sL:List AV->AS->Option (AV×AS):=ask 202 164 (two Xc srt.tK zzd) srt.Kh
theorem DL{Λ:LB}:gg Λ Tryz.prog 55 J5:=by
 intro ρ vs S w args v S' hR hl hq;obtain⟨bx,mi,clock,es,l,rfl,h1,h2,h3,h4⟩:=IG hq;obtain⟨k1,k2,k3,k4,k5⟩:=FY h3 fun a=>by unfold seg.Hg;simp
 refine seg.DL ρ _ S w args v S' hR hl ?_;rw[seg.J4 ⟨bx,mi,clock,rfl,h1,h2,k1,fun e he=>?_,k3,k4⟩,h4,seg.jO,k5];have:=k2 e he;unfold Ja at this;unfold seg.rl;split at this
 .rename_i s hs;rw[cY,decide_eq_true_eq]at this;simp[hs,this]
 .cases this
theorem yr{Λ:LB}:gg Λ Tryz.prog 161 sL:=by
 intro ρ vs S w args v S' hR hl hq;obtain⟨bx,mi,clock,es,l,rfl,h1,h2,h3,h4⟩:=IG hq;obtain⟨k1,k2,k3,k4,k5⟩:=FY h3 fun a=>by simp[cY]
 refine srt.yr ρ _ S w args v S' hR hl ?_;have e:(fun a b:Nat=>decide (a<=b))=zzd:=by funext a b;rw[cY]
 rw[srt.DI ⟨bx,mi,clock,rfl,h1,h2,k1,fun e he=>?_,k3,k4⟩,h4,srt.jO,e,k5];have:=k2 e he;unfold Xc at this;unfold srt.tK;split at this
 .rename_i s hs;rw[iJ,decide_eq_true_eq]at this;rw[hs];exact⟨rfl,this⟩
 .cases this
open Go.RowKit Go.Proofs.YtdknlbnljfdhgaaGreatDoor.dk
theorem rdy(A:Am.Ask)(h1:A.eqs=laid.A0.eqs)(h2:A.exts=[]):xM Tryz.prog A:=laid.ready A h1 (fun x hx=>by rw[h2]at hx;cases hx)
theorem J9(Λ:LB):∀x,x∈A1.ei->gg Λ Tryz.prog x.1 x.2:=by
 intro x hx;simp only[zzg,zzf,or_false]at hx;rcases hx with rfl|rfl|rfl
 .exact seg.RL
 .exact seg.DL
 .exact srt.yr
def q60(vs:List AV)(S:AS):Option (AV×AS):=match vs with
 |[.str s]=>cond (js (fun c=>zzc c 256) s&&zzd s.length 1048576) (some (.bool (lh s),S)) none
 |_=>none
theorem jcM{Λ:LB}:gg Λ Tryz.prog 60 q60:=by
 refine Cu (rdy A1 rfl rfl) (J9 Λ) (fun x hx=>by cases hx) 1 fun vs S v S' hq=>?_;unfold q60 at hq;split at hq
 .rename_i s;cases hb:(js (fun c=>zzc c 256) s&&zzd s.length 1048576)with
  |false=>rw[hb]at hq;cases hq
  |true=>
   rw[hb]at hq;cases hq;rw[zza,lz,cY,decide_eq_true_eq]at hb;exact⟨rfl,rfl,MK (fun c hc=>by have:=hb.1 c hc;rwa [iJ,decide_eq_true_eq]at this) hb.2⟩
 .cases hq
def Iu(v:AV):Nat:=match v with | .int .u8 (.ofNat n)=>n|_=>256
def isByte(v:AV):Bool:=match v with | .int .u8 (.ofNat n)=>zzc n 256|_=>false
theorem CM{v:AV}(h:isByte v=true):Iu v<256/\v=.int .u8 (Iu v:Nat):=by
 unfold isByte at h;unfold Iu;split at h
 .rw[iJ,decide_eq_true_eq]at h;exact⟨h,rfl⟩
 .cases h
def jcI(vs:List AV)(S:AS):Option (AV×AS):=match vs with
 |[v]=>match kR S v with
  |some cs=>cond (isSl 1 v&&zzd (aE v) S.nx&&zzb cs.length (sLen v)&&zzd (sLen v) 1073741824&&js isByte cs) (some (.int .u32 (.ofNat (jY (cs.map Iu))),S)) none
  |none=>none
 |_=>none
theorem Yj{Λ:LB}:gg Λ Tryz.prog 189 jcI:=by
 refine Cu (rdy A1 rfl rfl) (J9 Λ) (fun x hx=>by cases hx) 1 fun vs S v S' hq=>?_;unfold jcI at hq;split at hq
 .rename_i u;split at hq
  .rename_i cs hr;cases hb:(isSl 1 u&&zzd (aE u) S.nx&&zzb cs.length (sLen u)&&zzd (sLen u) 1073741824&&js isByte cs)with
   |false=>rw[hb]at hq;cases hq
   |true=>
    rw[hb]at hq;cases hq;simp only[zza,lz,cY,bO,decide_eq_true_eq]at hb;obtain⟨⟨⟨⟨h1,h2⟩,h3⟩,h4⟩,h5⟩:=hb;have e:aq (cs.map Iu)=cs:=by
     unfold aq;rw[List.map_map];exact (List.map_congr_left fun x hx=>(CM (h5 x hx)).2.symm).trans (List.map_id _)
    refine⟨rfl,rfl,JA ⟨h1,by rw[e];exact hr,by rw[aA,List.length_map,h3,Nat.mul_one],h2⟩ (fun c hc=>?_) (by rw[List.length_map,h3];exact h4)⟩;obtain⟨x,hx,rfl⟩:=List.mem_map.1 hc;exact (CM (h5 x hx)).1
  .cases hq
 .cases hq
end Go.Proofs.YtdknlbnljfdhgaaGreatDoor.run
namespace Go.Proofs.YtdknlbnljfdhgaaGreatDoor.aw
open Go Go.RowKit
def A0:Am.Ask:={laid.A0 with kZ:=[],ei:=[(55,run.J5),(60,run.q60),(161,run.sL),(189,run.jcI)]}
theorem jcL(Λ:Am.LB):∀x,x∈A0.ei->Am.gg Λ Tryz.prog x.1 x.2:=by
 intro x hx;simp only[A0,zzg,zzf,or_false]at hx;rcases hx with rfl|rfl|rfl|rfl
 .exact run.DL
 .exact run.jcM
 .exact run.yr
 .exact run.Yj
theorem answer:true=Am.jcB Tryz.prog A0 1000000 12 true:=by kernel_rfl
theorem jfB:seg.Dj:=fun _=>Am.Wp Tryz.func12 rfl fun W=>Am.Ls (laid.ready A0 rfl (fun _ h=>h)) jcL rfl 1000000 12 true answer W
end Go.Proofs.YtdknlbnljfdhgaaGreatDoor.aw
end
