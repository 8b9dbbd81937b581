/-
  What the listed package-level variables hold, as the abstract machine wants it; a world that meets the condition.
  The examples of the chapter run whole.
-/
import Derived.Test.YthklfandhmkpiaaGreatDoorPartA
import Derived.Test.YthklfandhmkpiaaGreatDoorAmTop
import Derived.Test.YthklfandhmkpiaaGreatDoorAmRules
import Derived.ChangeSame
import Derived.ChangeVars
import Derived.JoinedOf
import Derived.RowKit
import Derived.LaidLaws
import Derived.Lib.LaidTab
import Derived.Lib.Bytealg
import Derived.WalkKit
import Derived.ProofKit
import Derived.OpenShut
import Derived.Test.YthklfandhmkpiaaGreatDoorAmQuick
open Array renaming ext'->zza
open Go.Sem renaming run_pure->zzb,run_bind->zzc
open List renaming not_mem_nil->zzd,mem_cons->zzf
open Option.some renaming injEq->zze
set_option linter.unusedVariables false
set_option linter.unusedSimpArgs false
noncomputable section
namespace Go.Proofs.YthklfandhmkpiaaGreatDoor.laid
open Go Go.Am Go.ChangeShapes Go.WideShapes Go.ChangeAt Go.RowKit Go.Proofs.YthklfandhmkpiaaGreatDoor.sh
abbrev P:Program:=Tryz.prog
abbrev L:List (String×DataW Unit):=Rows.shellApartUptoRow.laid
theorem own:ownKnob P.godebug=none:=by kernel_rfl
theorem names:P.funcs.toList.all (fun fn=>!(fn.name == "runtime.NumGoroutine"))=true:=by kernel_rfl
theorem stoods:(A9.eqs.all fun t=>!P.stoodInHeld t && !P.eqGuardType P.depth t&&(P.fieldsOf t).toList.all (fun f=>!(f.name == "_")))=true:=by kernel_rfl
theorem ext130(v:Value)(w:World):(callFunc 130 #[v]).run P w=.ok (.value v) w:=by kernel_rfl
theorem ext256(a b:ByteArray)(w:World):(callFunc 256 #[.string a,.string b]).run P w=.ok (.value (.int .i64 (Lib.compareBytes a.data.toList b.data.toList))) w:=by
 have h:(callFunc 256 #[.string a,.string b]).run P w=((do pure (.value (<-Extern.BytealgCompare.compare #[.string a,.string b])):Sem Next)).run P w:=by kernel_rfl
 rw[h];simp only[zzc,Lib.run_compareString,Result.andThen_ok,zzb]
theorem run150(a:ByteArray)(c:Int)(w:World):(callFunc 150 #[.string a,.int .u8 c]).run P w=((Extern.BytealgIndexByte.indexByte #[.string a,.int .u8 c]).run P w).andThen fun v w'=>.ok (.value v) w':=by
 have h:(callFunc 150 #[.string a,.int .u8 c]).run P w=((do pure (.value (<-Extern.BytealgIndexByte.indexByte #[.string a,.int .u8 c])):Sem Next)).run P w:=by kernel_rfl
 rw[h];simp only[zzc,zzb]
theorem ext150(a:ByteArray)(c:Nat)(w:World)(hc:c<256):(callFunc 150 #[.string a,.int .u8 c]).run P w=.ok (.value (match Am.tL c (a.data.toList.map UInt8.toNat) 0 with|some n=>.int .i64 n|none=>.int .i64 (-1))) w:=by
 have k:=Am.xj a c hc;rw[run150,run_indexByte_string];cases h:Am.tL c (a.data.toList.map UInt8.toNat) 0 with
 |none=>rw[h]at k;rw[k];rfl
 |some n=>rw[h]at k;rw[k];rfl
theorem vZ(c:Nat)(hc:c<256):∀(l:List UInt8)(n:Nat),Am.Bj c (l.map UInt8.toNat) n=n+Lib.countByte l ((c:Int).toNat.toUInt8)
 |[],n=>by simp[Am.Bj,Lib.countByte]
 |x::l,n=>by
  have hp:(x==(c:Int).toNat.toUInt8)=Nat.beq x.toNat c:=by
   rw[Int.toNat_natCast];have:(c.toUInt8).toNat=c:=by simp[Nat.mod_eq_of_lt hc]
   rw[Bool.eq_iff_iff,beq_iff_eq,Nat.beq_eq,<-UInt8.toNat_inj,this]
  have e:Am.Bj c ((x::l).map UInt8.toNat) n=Am.Bj c (l.map UInt8.toNat) (cond (Nat.beq x.toNat c) (n+1) n):=by
   show cond (Nat.beq x.toNat c) (Am.Bj c (l.map UInt8.toNat) (n+1)) (Am.Bj c (l.map UInt8.toNat) n)=_;cases Nat.beq x.toNat c<;>rfl
  rw[e,vZ c hc l];unfold Lib.countByte;rw[List.count_cons,hp];cases Nat.beq x.toNat c
  .simp
  .simp;omega
theorem ext218(a:ByteArray)(c:Nat)(w:World)(hc:c<256):(callFunc 218 #[.string a,.int .u8 c]).run P w=.ok (.value (.int .i64 (Am.Bj c (a.data.toList.map UInt8.toNat) 0))) w:=by
 have h:(callFunc 218 #[.string a,.int .u8 c]).run P w=((do pure (.value (<-Extern.BytealgCount.count #[.string a,.int .u8 c])):Sem Next)).run P w:=by kernel_rfl
 rw[h];simp only[zzc,Lib.run_countString,Result.andThen_ok,zzb];rw[vZ c hc,Nat.zero_add]
theorem u48:P.underlying 48=some (.slice 5):=by kernel_rfl
theorem ext224(args:Array Value)(w:World):(callFunc 224 args).run P w=((Extern.BytealgMakeNoZero.makeNoZero #[3] #[48] args).run P w).andThen fun v w'=>.ok (.value v) w':=by
 have h:(callFunc 224 args).run P w=((do pure (.value (<-Extern.BytealgMakeNoZero.makeNoZero #[3] #[48] args)):Sem Next)).run P w:=by kernel_rfl
 rw[h];simp only[zzc,zzb]
theorem ready(A:Am.Ask)(h1:A.eqs=A9.eqs)(h2:A.exts=A9.exts):Am.zJ P A:=by
 refine⟨by kernel_rfl,fun t h=>?_,Am.enters_ok names,fun x h=>?_⟩
 .rw[h1]at h;have:=List.all_eq_true.1 stoods t h;simp only[Bool.and_eq_true,Bool.not_eq_true']at this;refine⟨this.1.1,this.1.2,fun f hf=>?_⟩;have:=List.all_eq_true.1 this.2 f hf;simpa using this
 .rw[h2]at h;simp only[A9,zzf,zzd,or_false]at h;rcases h with rfl|rfl|rfl|rfl|rfl
  .intro a b w;rw[<-zz];exact ext256 a b w
  .exact ext130
  .exact ext150
  .exact ext218
  .exact⟨#[3],48,u48,ext224⟩
theorem gl0:P.globalNamed ((L.map (·.1)).getD 0 default)=some 6:=by kernel_rfl
theorem gl1:P.globalNamed ((L.map (·.1)).getD 1 default)=some 7:=by kernel_rfl
theorem gl2:P.globalNamed ((L.map (·.1)).getD 2 default)=some 3:=by kernel_rfl
theorem gl4:P.globalNamed ((L.map (·.1)).getD 4 default)=some 2:=by kernel_rfl
theorem gl5:P.globalNamed ((L.map (·.1)).getD 5 default)=some 1:=by kernel_rfl
theorem ty6:(P.globals[6]?).map (·.type)=some 333:=by kernel_rfl
theorem ty7:(P.globals[7]?).map (·.type)=some 334:=by kernel_rfl
theorem ty3:(P.globals[3]?).map (·.type)=some 307:=by kernel_rfl
theorem ty2:(P.globals[2]?).map (·.type)=some 138:=by kernel_rfl
theorem ty1:(P.globals[1]?).map (·.type)=some 138:=by kernel_rfl
theorem u333:P.underlying 333=some (.array 32 5):=by kernel_rfl
theorem u334:P.underlying 334=some (.array 64 5):=by kernel_rfl
theorem u307:P.underlying 307=some (.array 20 38):=by kernel_rfl
theorem u5:P.underlying 5=some (.int .u8):=by kernel_rfl
theorem u38:P.underlying 38=some (.int .u64):=by kernel_rfl
theorem c5:P.cellsOf 5=1:=by kernel_rfl
theorem c38:P.cellsOf 38=1:=by kernel_rfl
theorem c333:P.cellsOf 333=32:=by kernel_rfl
theorem c334:P.cellsOf 334=64:=by kernel_rfl
theorem c307:P.cellsOf 307=20:=by kernel_rfl
def B(b:Nat):Prop:=b∈[6,7,3,2,1]
theorem B3{W:World}{n:String}{g:Nat}{cs:Array Value}(hg:P.globalNamed n=some g)(h:W.var? P n=some cs):∃e fr,W.heap[g]?=some (.cells cs e fr):=by
 unfold World.var? at h;rw[hg]at h;simp only[Option.bind_some]at h;split at h
 .rename_i c e fr hh;simp only[zze]at h;subst h;exact⟨e,fr,hh⟩
 .cases h
theorem vO{W:World}{n:String}{g:Nat}{k:IntKind}{zs:List Int}(hb:B g)(hg:P.globalNamed n=some g)(h:W.var? P n=some (zs.map fun z=>Value.int k z).toArray):gu W B g (zs.map (AV.int k)):=by
 obtain⟨e,fr,hh⟩:=B3 hg h;refine⟨hb,_,e,fr,hh,fun i x hx=>?_⟩;rw[List.getElem?_map]at hx;cases hz:zs[i]? with
 |none=>rw[hz]at hx;cases hx
 |some z=>
  rw[hz]at hx;simp only[Option.map_some,zze]at hx;subst hx;exact⟨.int k z,by simp[hz],fun ρ=>by simp[aq],rfl⟩
theorem vP{W:World}{n:String}{g:Nat}{u:TypeId}{v:Value}(hb:B g)(hg:P.globalNamed n=some g)(h:W.var? P n=some #[.iface u v]):gu W B g [.iface u .top]:=by
 obtain⟨e,fr,hh⟩:=B3 hg h;refine⟨hb,_,e,fr,hh,fun i x hx=>?_⟩
 match i with
 |0=>
  simp at hx;subst hx;exact⟨.iface u v,rfl,fun ρ=>by simp[aq],rfl⟩
 |i+1=>simp at hx
def nmOf(d:DataW Unit):String:=match d with | .iface n _=>n|_=>default
theorem row303(u:TypeId)(h:P.typeName? 3 u=some (nmOf Rows.laid_strconv_ErrRange)):u=303:=
 typeName_ptr_named (nm:="errors.errorString") (by kernel_rfl) (by kernel_rfl) (by decide) u (h.trans (congrArg some (by decide)))
theorem globs_of{W:World}(h:laidMet P L W):∀x,x∈A9.eZ->gu W B x.1 x.2:=by
 obtain⟨ps,⟨g0,t0,cs0,f0,p0,q0,hg0,ht0,hv0,hd0,⟨g1,t1,cs1,f1,p1,q1,hg1,ht1,hv1,hd1,⟨g2,t2,cs2,f2,p2,q2,hg2,ht2,hv2,hd2,
  ⟨_,_,_,_,_,_,_,_,_,_,⟨g3,t3,cs3,f3,p3,q3,hg3,ht3,hv3,hd3,⟨g4,t4,cs4,f4,p4,q4,hg4,ht4,hv4,hd4,_,_⟩,_⟩,_⟩,_⟩,_⟩,_⟩,_,_⟩:=h
 obtain rfl:=Option.some.inj (gl0.symm.trans hg0);obtain rfl:=Option.some.inj (gl1.symm.trans hg1);obtain rfl:=Option.some.inj (gl2.symm.trans hg2);obtain rfl:=Option.some.inj (gl4.symm.trans hg3);obtain rfl:=Option.some.inj (gl5.symm.trans hg4);obtain rfl:=Option.some.inj (ty6.symm.trans ht0);obtain rfl:=Option.some.inj (ty7.symm.trans ht1);obtain rfl:=Option.some.inj (ty3.symm.trans ht2);obtain rfl:=Option.some.inj (ty2.symm.trans ht3);obtain rfl:=Option.some.inj (ty1.symm.trans ht4);have e0:cs0=(db32.map fun z=>Value.int .u8 z).toArray:=zza (by simpa using Lib.cells_of_tab (zs:=db32) u333 u5 c5 c333 hd0);have e1:cs1=(db64.map fun z=>Value.int .u8 z).toArray:=zza (by simpa using Lib.cells_of_tab (zs:=db64) u334 u5 c5 c334 hd1);have e2:cs2=(p10.map fun z=>Value.int .u64 z).toArray:=zza (by simpa using Lib.cells_of_tab (zs:=p10) u307 u38 c38 c307 hd2);obtain⟨_,v3,y3,hc3,hn3,_⟩:=iface_of_trod Tryz.underlying138 hd3;obtain⟨_,v4,y4,hc4,hn4,_⟩:=iface_of_trod Tryz.underlying138 hd4;obtain rfl:=row303 v3 hn3;obtain rfl:=row303 v4 hn4;have e3:cs3=#[.iface 303 y3]:=zza hc3;have e4:cs4=#[.iface 303 y4]:=zza hc4;subst e0 e1 e2 e3 e4;intro x hx;simp only[A9,zzf,zzd,or_false]at hx;rcases hx with rfl|rfl|rfl|rfl|rfl
 .exact vO (by simp[B]) hg0 hv0
 .exact vO (by simp[B]) hg1 hv1
 .exact vO (by simp[B]) hg2 hv2
 .exact vP (by simp[B]) hg3 hv3
 .exact vP (by simp[B]) hg4 hv4
theorem base_of{W:World}(h:∀x,x∈A9.eZ->gu W B x.1 x.2)(b:Nat)(hb:B b):b<W.heap.size/\W.heap[b]?=W.heap[b]?:=by
 refine⟨?_,rfl⟩;have key:∀g cs,gu W B g cs->g<W.heap.size:=by
  rintro g cs ⟨_,C,e,fr,hh,_⟩;exact (Array.getElem?_eq_some_iff.1 hh).1
 simp only[B,zzf,zzd,or_false]at hb;rcases hb with rfl|rfl|rfl|rfl|rfl
 .exact key _ _ (h (6,db32.map (AV.int .u8)) (by simp[A9]))
 .exact key _ _ (h (7,db64.map (AV.int .u8)) (by simp[A9]))
 .exact key _ _ (h (3,p10.map (AV.int .u64)) (by simp[A9]))
 .exact key _ _ (h (2,[.iface 303 .top]) (by simp[A9]))
 .exact key _ _ (h (1,[.iface 303 .top]) (by simp[A9]))
def textOf(d:DataW Unit):ByteArray:=match d with
 | .iface _ (.ptr (.agg [.lit (.string s)]))=>⟨s.toArray⟩
 |_=>default
def rangesZ:List Nat:=[128,191,160,191,128,159,144,191,128,143,0,0,0,0,0,0,0,0,0,0,0,0,0,0,0,0,0,0,0,0,0,0]
def low:Nat:=(World.holding P default ⟨#[],#[],[]⟩).heap.size
def sq(os:Os):World:=
 let w0:=World.holding P os ⟨#[.cells #[.string (textOf Rows.laid_strconv_ErrRange)] 305,.cells #[.string (textOf Rows.laid_strconv_ErrSyntax)] 305],#[],[]⟩
 { w0 with heap := (((((((w0.heap.modify 6 fun
     | .cells _ t frozen=>.cells (db32.map fun z=>Value.int .u8 z).toArray t frozen
     |o=>o).modify 7 fun
     | .cells _ t frozen=>.cells (db64.map fun z=>Value.int .u8 z).toArray t frozen
     |o=>o).modify 3 fun
     | .cells _ t frozen=>.cells (p10.map fun z=>Value.int .u64 z).toArray t frozen
     |o=>o).modify 2 fun
     | .cells _ t frozen=>.cells #[.iface 303 (.pointer (some ⟨low,0,none⟩))] t frozen
     |o=>o).modify 1 fun
     | .cells _ t frozen=>.cells #[.iface 303 (.pointer (some ⟨low+1,0,none⟩))] t frozen
     |o=>o).modify 4 fun
     | .cells _ t frozen=>.cells (Go.Pinned.utf8FirstZ.map fun (n:Nat)=>Value.int .u8 (n:Int)).toArray t frozen
     |o=>o).modify 5 fun
     | .cells _ t frozen=>.cells (rangesZ.map fun (n:Nat)=>Value.int .u8 (n:Int)).toArray t frozen
     |o=>o)}
theorem wZ(os:Os)(args:Array Value):laidMet P L ((sq os).forCall (fun _ _=>0) ⟨#[],args,[]⟩).memory:=
 laidMet_of_run' 8 (by kernel_rfl) (by kernel_rfl)
end Go.Proofs.YthklfandhmkpiaaGreatDoor.laid
namespace Go.Proofs.YthklfandhmkpiaaGreatDoor.sh
open Go Go.Am Go.RowKit
theorem answer:true=Am.saysK Tryz.prog A9 1000000 15 true:=by kernel_rfl
theorem wakes:EI:=by
 intro Λ hg ρ l S w args v S' hR hl hq;cases l with
 |cons x xs=>cases hq
 |nil=>
  cases hq;simp only[aD]at hl;have:args=#[]:=zza (by simpa using hl);subst this;refine⟨⟨_,Tryz.func15,by kernel_rfl⟩,(call_fast (Λ:=Λ) (laid.ready A9 rfl rfl) (fun x hx=>by cases hx) hg 1000000 15 true answer w hR.start (fun b hb=>⟨(hR.base b hb).1,(hR.base b hb).2.1⟩)).mono fun e w' he=>?_⟩;obtain⟨h1,h2⟩:=hR.below he.2;exact⟨.bool true,ρ,he.1,by simp[aq],h1,h2⟩
end Go.Proofs.YthklfandhmkpiaaGreatDoor.sh
end
