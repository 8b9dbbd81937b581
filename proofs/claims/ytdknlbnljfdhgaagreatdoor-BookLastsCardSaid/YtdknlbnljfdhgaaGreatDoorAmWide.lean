/-
  The abstract machine: slices whose elements have several cells, maps with keys that are numbers, footprints.
-/
import Derived.Test.YtdknlbnljfdhgaaGreatDoorAmRow
open Nat renaming le_refl->zza,succ_mul->zzb,mul->zzf,mul_le_mul_right->zzg,add_comm->zzj
open List renaming flatMap_cons->zzc,length_append->zzd,getElem?_take->zzh,getElem?_drop->zzi,length_drop->zzk,drop_drop->zzl
open Bool renaming and_self->zze
open Option.some renaming injEq->zzm
set_option linter.unusedSimpArgs false
namespace Go.Am
open Go
def ug(v:AV)(j:Nat):AV:=match v with | .ptr id g off lim=>.ptr id g (off+j) lim|_=>.undef
theorem zF{v:AV}{j:Nat}:sZ (ug v j)=true:=by cases v<;>rfl
def isP:AV->Bool | .ptr ..=>true|_=>false
theorem fY{v:AV}{o:Nat}(h:isP v=true):lJ v (some o)=some (ug v o):=by
 cases v<;>simp[isP]at h;rfl
theorem uZ{v:AV}{k n:Nat}(hv:isSl n v=true)(h:k<sLen v):isP (nh v k)=true:=by
 cases v<;>simp[isSl]at hv
 .simp[sLen]at h
 .rfl
theorem K8{α:Type}{sz:Nat}{enc:α->List AV}(hz:∀x,(enc x).length=sz)(L:List α):(L.flatMap enc).length=L.length*sz:=by
 induction L with
 |nil=>simp
 |cons x l ih=>rw[zzc,zzd,ih,hz,List.length_cons,zzb];omega
theorem Nt{α:Type}{sz:Nat}{enc:α->List AV}(hz:∀x,(enc x).length=sz):∀(L:List α)(k:Nat),(L.flatMap enc).drop (k*sz)=(L.drop k).flatMap enc
 |[],k=>by simp
 |x::l,0=>by simp
 |x::l,k+1=>by
  rw[zzc,List.drop_succ_cons,<-Nt hz l k,zzb,zzj,<-zzl];rw[<-hz x,List.drop_left]
theorem Ns{α:Type}{sz:Nat}{enc:α->List AV}(hz:∀x,(enc x).length=sz):∀(L:List α)(k:Nat),(L.flatMap enc).take (k*sz)=(L.take k).flatMap enc
 |[],k=>by simp
 |x::l,0=>by simp
 |x::l,k+1=>by
  rw[zzc,List.take_succ_cons,zzc,<-Ns hz l k,zzb,zzj,<-hz x,List.take_length_add_append]
theorem VQ{α:Type}{sz:Nat}{enc:α->List AV}(hz:∀x,(enc x).length=sz){L:List α}{k:Nat}{x:α}(h:L[k]?=some x):((L.flatMap enc).drop (k*sz)).take sz=enc x:=by
 obtain⟨hk,rfl⟩:=List.getElem?_eq_some_iff.1 h;rw[Nt hz,List.drop_eq_getElem_cons hk,zzc,List.take_left' (hz _)]
section
variable{cx:Cx}{S:AS}{v:AV}{α:Type}{sz k:Nat}{enc:α->List AV}{L:List α}{x:α}{e:TypeId}
theorem Sl.aO(h:Sl S v sz (L.flatMap enc))(hz:∀x,(enc x).length=sz)(hp:0<sz):sLen v=L.length:=by
 have:=h.len;rw[K8 hz]at this;exact (Nat.eq_of_mul_eq_mul_right hp this).symm
theorem dB(h:Sl S v sz (L.flatMap enc))(hz:∀x,(enc x).length=sz)(hp:0<sz)(hk:L[k]?=some x)(ha:aN cx e=some true)(hs:aG cx e=some sz):loadT cx S e (nh v k)=some (.agg (enc x)):=by
 rw[PK h (by rw[h.aO hz hp];exact (List.getElem?_eq_some_iff.1 hk).1) ha hs,VQ hz hk]
theorem jgc(h:Sl S v sz (L.flatMap enc))(hz:∀x,(enc x).length=sz)(hp:0<sz)(hk:L[k]?=some x):∃id g off n lim cap,v=.slice id g off n lim sz cap/\k<n /\
  ∃cells low top frz e,S.h.get id=some (.row cells low top frz e)/\low<=g/\g<=top/\off+n*sz<=lim/\(cells.drop (off+k*sz)).take sz=enc x:=by
 have Hv:k<sLen v:=by rw[h.aO hz hp];exact (List.getElem?_eq_some_iff.1 hk).1
 obtain⟨id,g,off,n,lim,cap,rfl,cells,low,top,frz,e',hg,h1,h2,h3,h4⟩:=qQ h Hv;simp only[sLen]at Hv;refine⟨id,g,off,n,lim,cap,rfl,Hv,cells,low,top,frz,e',hg,h1,h2,h3,?_⟩;have hle:k*sz+sz<=n*sz:=by rw[<-zzb];exact zzg _ Hv
 rw[<-VQ hz hk,<-h4,List.drop_take,List.take_take,Nat.min_eq_left (by omega),zzl]
theorem iy{o:Nat}{y:AV}(h:Sl S v sz (L.flatMap enc))(hz:∀x,(enc x).length=sz)(hp:0<sz)(hk:L[k]?=some x)(hy:(enc x)[o]?=some y)(ha:aN cx e=some false):loadT cx S e (ug (nh v k) o)=some y:=by
 obtain⟨id,g,off,n,lim,cap,rfl,Hv,cells,low,top,frz,e',hg,h1,h2,h3,h4⟩:=jgc h hz hp hk;have ho:o<sz:=by rw[<-hz x];exact (List.getElem?_eq_some_iff.1 hy).1
 have hle:k*sz+sz<=n*sz:=by rw[<-zzb];exact zzg _ Hv
 simp only[nh,ug,jz,ll,ha,oE,hg,bB];rw[if_pos ⟨h1,h2,by omega⟩];have:(cells.drop (off+k*sz+o)).take 1=[y]:=by
  rw[<-h4,zzh,if_pos ho,zzi]at hy;rw[List.take_one,List.head?_drop,hy];rfl
 rw[this];rfl
end
def Ip(n:Nat):Option Nat->Bool|none=>true|some c=>decide (c=n)
def Gw(S:AS)(v:AV)(sz e:Nat)(cs:List AV):Prop:=
 Sl S v sz cs/\(v=.ar\/∃id g off n lim cap,v=.slice id g off n lim sz cap/\Ip n cap=true/\id<S.nx/\∃cells low top,S.h.get id=some (.row cells low top false e)/\low<=g/\g=top)
theorem Gw.nil{S:AS}{sz e:Nat}:Gw S .ar sz e []:=⟨Sl.nil,.inl rfl⟩
theorem Own.gw{S:AS}{lo:Nat}{v:AV}{sz e:Nat}{cs:List AV}(h:Own S lo v sz e cs):Gw S v sz e cs:=by
 refine⟨h.sl,?_⟩;rcases h with⟨rfl,rfl⟩|⟨id,g,low,n,rfl,h1,h2,h3,h4,h5⟩
 .exact .inl rfl
 .exact .inr ⟨id,g,0,n,n*sz,none,rfl,rfl,h2,cs,low,g,h3,h4,rfl⟩
theorem Gw.agree{S T:AS}{v:AV}{sz e:Nat}{cs:List AV}(h:Gw S v sz e cs)(hs:∀id,aE v=id+1->T.h.get id=S.h.get id)(hn:S.nx<=T.nx):Gw T v sz e cs:=by
 obtain⟨h1,h2⟩:=h;refine⟨⟨h1.sl,?_,h1.len,Nat.le_trans h1.old hn⟩,?_⟩
 .have hr:=h1.rd;rw[<-hr];unfold kR;split<;>try rfl
  rename_i i g off n lim z _;cases n with
  |zero=>rfl
  |succ n=>simp only[dN,hs i rfl]
 .rcases h2 with rfl|⟨id,g,off,n,lim,cap,rfl,hc,cQ,cells,low,top,hg,hl⟩
  .exact .inl rfl
  .exact .inr ⟨id,g,off,n,lim,cap,rfl,hc,Nat.lt_of_lt_of_le cQ hn,cells,low,top,by rw[hs id rfl];exact hg,hl⟩
def jbT:AV->Bool | .slice _ _ _ _ _ _ (some _)=>false|_=>true
theorem fo{cx:Cx}{S:AS}{t u:Nat}{ts:List TypeId}{p:Nat×Nat×Nat}{v x:AV}{cs ds:List AV}{d:TypeDesc}(h:qh cx t=some p)(hu:bN cx u=some d)(hd:DV d=true)
  (ho:Gw S v p.2.1 p.1 cs) (hx:Sl S x p.2.1 ds) (hf:fits (sLen v+sLen x) p.2.2=true) :
  ∃v' T,bh cx S .append (t::u::ts) [v,x]=.val v' T/\Gw T v' p.2.1 p.1 (cs++ds)/\(∀id,id<S.nx->id+1≠aE v->T.h.get id=S.h.get id)/\S.nx<=T.nx/\sLen v'=sLen v+sLen x/\(isNil v'=(isNil v&&decide (sLen x=0))) /\
   (aE v'=aE v\/S.nx<aE v')/\(sLen x≠0->jbT v'=true):=by
 have ht:=qF hx;have hlen:=hx.len;rw[ue h hu hd];obtain⟨Hs,sQ⟩:=ho;cases hn:sLen x with
 |zero=>
  rw[hn]at ht hlen;have sq:ds=[]:=by rw[Nat.zero_mul]at hlen;exact List.length_eq_zero_iff.1 hlen
  subst sq;refine⟨v,S,?_,by rw[List.append_nil];exact⟨Hs,sQ⟩,fun _ _ _=>rfl,zza _,rfl,by simp,.inl rfl,fun h=>absurd rfl h⟩;unfold gf;rcases sQ with rfl|⟨id,g,off,n,lim,cap,rfl,_⟩
  .simp[ht,ey]
  .simp[ht,bO,ey]
 |succ m=>
  rw[hn]at ht hlen hf;rcases sQ with rfl|⟨id,g,off,n,lim,cap,rfl,hc,cQ,cells,low,top,hg,hl,htq⟩
  .have KY:cs=[]:=by have:=Hs.rd;simp only[kR,zzm]at this;exact this.symm
   subst KY;have j9:Own (⟨S.h.set S.nx (.row ds 0 0 false p.1),S.nx+1⟩:AS) S.nx (.slice S.nx 0 0 (m+1) ((m+1)*p.2.1) p.2.1 none) p.2.1 p.1 ds:=
    .inr ⟨S.nx,0,0,m+1,rfl,zza _,Nat.lt_succ_self _,aa _ _ _,zza _,hlen⟩
   refine⟨.slice S.nx 0 0 (m+1) ((m+1)*p.2.1) p.2.1 none,⟨S.h.set S.nx (.row ds 0 0 false p.1),S.nx+1⟩,?_,j9.gw,fun i hi _=>ae _ _ (by omega),Nat.le_succ _,by simp[sLen],by simp[isNil],.inr (by simp[aE]),fun _=>rfl⟩;unfold gf;have Es:fits (m+1) p.2.2=true:=by simpa[sLen]using hf
   simp only[ht,Es,cond_true,grown];simp[ey]
  .have KO:g<=top:=Nat.le_of_eq htq;have ry:(cells.drop off).take (n*p.2.1)=cs/\cs.length=n*p.2.1:=by
    have h1:=Hs.rd;have h2:=Hs.len;simp only[sLen]at h2;refine⟨?_,h2⟩;cases n with
    |zero=>simp only[kR,zzm]at h1;subst h1;simp
    |succ n=>
     simp only[kR,dN,hg,bB]at h1;split at h1
     .simpa using h1
     .cases h1
   obtain⟨ry,Vd⟩:=ry;have Ag:(cs++ds).length=(n+(m+1))*p.2.1:=by rw[zzd,Vd,hlen];exact (Nat.add_mul n (m+1) p.2.1).symm
   simp only[sLen]at hf;have e1:Nat.add n (m+1)=n+(m+1):=rfl;have e2:zzf n p.2.1=n*p.2.1:=rfl;have e3:zzf (n+(m+1)) p.2.1=(n+(m+1))*p.2.1:=rfl;cases cap with
   |some c=>
    simp only[Ip,decide_eq_true_eq]at hc;subst hc;have j9:Own (⟨S.h.set S.nx (.row (cs++ds) 0 0 false p.1),S.nx+1⟩:AS) S.nx (.slice S.nx 0 0 (c+(m+1)) ((c+(m+1))*p.2.1) p.2.1 none) p.2.1 p.1 (cs++ds):=
     .inr ⟨S.nx,0,0,c+(m+1),rfl,zza _,Nat.lt_succ_self _,aa _ _ _,zza _,Ag⟩
    refine⟨.slice S.nx 0 0 (c+(m+1)) ((c+(m+1))*p.2.1) p.2.1 none,_,?_,j9.gw,fun i hi _=>ae _ _ (by omega),Nat.le_succ _,rfl,by simp[isNil],.inr (by simp[aE]),fun _=>rfl⟩;unfold gf;have e4:decide (c+(m+1)<=c)=false:=by simp
    simp only[ht,bO,decide_true,cond_true,hg,cY,hl,KO,zze,aQ,e1,hf,e2,e4,cond_false,grown,cR,cF,bJ,e3,ry];rfl
   |none=>
    unfold gf;by_cases hw:(decide (off=0)&&decide (g=top)&&decide (cells.length=n*p.2.1))=true
    .simp only[Bool.and_eq_true,decide_eq_true_eq]at hw;obtain⟨⟨rfl,rfl⟩,hw⟩:=hw;have sS:cells=cs:=by rw[<-ry,List.drop_zero,<-hw,List.take_length]
     subst sS;refine⟨.slice id (g+1) 0 (n+(m+1)) ((n+(m+1))*p.2.1) p.2.1 none,⟨S.h.set id (.row (cells++ds) low (g+1) false p.1),S.nx⟩,?_,?_,fun i hi ct=>ae _ _ (fun e=>ct (by simp[aE,e])),zza _,rfl,by simp[isNil],.inl rfl,fun _=>rfl⟩
     .simp only[ht,bO,decide_true,cond_true,hg,cY,hl,zza,zze,aQ,e1,hf,Bool.not_true,Bool.or_false,cond_false,bX,Vd,e2,e3,bJ];rfl
     .have j9:Own (⟨S.h.set id (.row (cells++ds) low (g+1) false p.1),S.nx⟩:AS) 0 (.slice id (g+1) 0 (n+(m+1)) ((n+(m+1))*p.2.1) p.2.1 none) p.2.1 p.1 (cells++ds):=
       .inr ⟨id,g+1,low,n+(m+1),rfl,Nat.zero_le _,cQ,aa _ _ _,Nat.le_succ_of_le hl,Ag⟩
      exact j9.gw
    .have Jd:(decide (off=0)&&decide (g=top)&&decide (cells.length=n*p.2.1))=false:=by simpa using hw
     refine⟨.slice id (top+1) 0 (n+(m+1)) ((n+(m+1))*p.2.1) p.2.1 none,⟨S.h.set id (.row (cs++ds) (top+1) (top+1) false p.1),S.nx⟩,?_,?_,fun i hi ct=>ae _ _ (fun e=>ct (by simp[aE,e])),zza _,rfl,by simp[isNil],.inl rfl,fun _=>rfl⟩
     .simp only[ht,bO,decide_true,cond_true,hg,cY,hl,KO,zze,aQ,e1,hf,Bool.not_true,Bool.or_false,cond_false,bX,e2,e3,bJ,cR,cF,ry,Jd];rfl
     .have j9:Own (⟨S.h.set id (.row (cs++ds) (top+1) (top+1) false p.1),S.nx⟩:AS) 0 (.slice id (top+1) 0 (n+(m+1)) ((n+(m+1))*p.2.1) p.2.1 none) p.2.1 p.1 (cs++ds):=
       .inr ⟨id,top+1,top+1,n+(m+1),rfl,Nat.zero_le _,cQ,aa _ _ _,zza _,Ag⟩
      exact j9.gw
theorem Gw.jge{S:AS}{v x:AV}{sz e:Nat}{cs:List AV}{i o:Nat}(h:Gw S v sz e cs)(hi:i<sLen v)(ho:o<sz):
  ∃T,xQ S (ug (nh v i) o) [x]=some T/\Gw T v sz e (cs.set (i*sz+o) x)/\(∀id,id+1≠aE v->T.h.get id=S.h.get id)/\T.nx=S.nx:=by
 obtain⟨h1,h2⟩:=h;rcases h2 with rfl|⟨id,g,off,n,lim,cap,rfl,hc,cQ,cells,low,top,hg,hl,htq⟩
 .simp[sLen]at hi
 .subst htq;simp only[sLen]at hi;obtain⟨MV,g',off',n',lim',Iq,e1,cells',low',top',frz',ty',Ai,k1,k2,k3,k4⟩:=qQ h1 (k:=i) hi;cases e1;rw[hg]at Ai;cases Ai;have hlen:=h1.len;simp only[sLen]at hlen;have hle:i*sz+sz<=n*sz:=by rw[<-zzb];exact zzg _ hi
  have ry:off+n*sz<=cells.length:=by
   have:=congrArg List.length k4;rw[List.length_take,zzk,hlen]at this;by_cases h0:n*sz=0
   .omega
   .omega
  have hsp:dq (off+i*sz+o) cells [x]=cells.set (off+i*sz+o) x:=by
   rw[iu _ _ _ (by omega),List.set_eq_take_append_cons_drop,if_pos (by omega)];simp
  refine⟨⟨S.h.set id (.row (cells.set (off+i*sz+o) x) g g false e),S.nx⟩,?_,⟨⟨h1.sl,?_,by rw[List.length_set];exact hlen,h1.old⟩,.inr ⟨id,g,off,n,lim,cap,rfl,hc,cQ,_,g,g,aa _ _ _,zza _,rfl⟩⟩,fun j hj=>ae _ _ (fun e=>hj (by simp[aE,e])),rfl⟩
  .simp only[nh,ug,eC,iT,hg,dO,List.length_singleton,hsp];rw[if_pos (by refine⟨?_,by omega,?_⟩<;>trivial)]
  .obtain⟨m,rfl⟩:∃m,n=m+1:=⟨n-1,by omega⟩
   simp only[kR,dN,aa,bB];rw[if_pos ⟨zza _,zza _,k3⟩];congr 1;rw[<-k4];apply List.ext_getElem?;intro j;rw[zzh,zzi,List.getElem?_set,List.getElem?_set,zzh,zzi,List.length_take,zzk];by_cases hj:j<(m+1)*sz
   .rw[if_pos hj,if_pos hj];by_cases hjj:i*sz+o=j
    .rw[if_pos hjj,if_pos (by omega),if_pos (by omega),if_pos (by omega)]
    .rw[if_neg hjj,if_neg (by omega)]
   .rw[if_neg hj,if_neg hj,if_neg (by omega)]
def xT{κ:Type}[DecidableEq κ]:List (κ×AV)->κ->Option AV
 |[],_=>none
 |(a,v)::m,k=>if k=a then some v else xT m k
def re{κ:Type}[DecidableEq κ]:List (κ×AV)->κ->AV->List (κ×AV)
 |[],k,v=>[(k,v)]
 |(a,w)::m,k,v=>if k=a then (k,v)::m else (a,w)::re m k v
structure LS{κ:Type}[DecidableEq κ](d:TypeDesc)(enc:κ->AV):Prop where
 same:∀a b,om d (enc a) (enc b)=some (decide (a=b))
 plain:∀a,plainKey d (enc a)=true
theorem KI(i k:IntKind):LS (.int i) (fun n:Int=>AV.int k n):=
 ⟨fun a b=>by
  show cond (eE k k) (some (Bs a b)) none=_;rw[eu,cond_true,gz],fun _=>rfl⟩
noncomputable def KA(cx:Cx)(t:TypeId):Option (TypeDesc×AV):=match bN cx t with
 |some (.map kt et)=>match bN cx kt,zeroOf cx et with
  |some d,some z=>some (d,z)
  |_,_=>none
 |_=>none
theorem zR{cx:Cx}{t:TypeId}{p:TypeDesc×AV}(h:KA cx t=some p):∃kt et,bN cx t=some (.map kt et)/\bN cx kt=some p.1/\zeroOf cx et=some p.2:=by
 unfold KA at h;split at h
 .rename_i kt et hu;split at h
  .rename_i d z h1 h2;cases h;exact⟨kt,et,hu,h1,h2⟩
  .cases h
 .cases h
def Mp{κ:Type}(S:AS)(x:AV)(enc:κ->AV)(m:List (κ×AV)):Prop:=
 ∃id es clock,x=.map id/\id<S.nx/\S.h.get id=some (.map es clock)/\es.map (fun e=>(e.key,e.val))=m.map (fun p=>(enc p.1,p.2))
theorem Ax{κ:Type}[DecidableEq κ]{d:TypeDesc}{enc:κ->AV}(hk:LS d enc)(k:κ)(v:AV)(clock:Nat):∀(es:List dI)(m:List (κ×AV))(i:Nat),es.map (fun e=>(e.key,e.val))=m.map (fun p=>(enc p.1,p.2)) ->
  (∃j e,gR d (enc k) es i=some (some (i+j,e))/\j<es.length/\xT m k=some e.val/\(tF j es ⟨enc k,v,e.born⟩).map (fun e=>(e.key,e.val))=(re m k v).map (fun p=>(enc p.1,p.2))) \/
  (gR d (enc k) es i=some none/\xT m k=none/\(gC es [⟨enc k,v,clock⟩]).map (fun e=>(e.key,e.val))=(re m k v).map (fun p=>(enc p.1,p.2)))
 |[],m,i,h=>by
  cases m with
  |nil=>exact .inr ⟨rfl,rfl,rfl⟩
  |cons p m=>simp at h
 |e::es,m,i,h=>by
  cases m with
  |nil=>simp at h
  |cons p m=>
   obtain⟨a,w⟩:=p;simp only[List.map_cons,List.cons.injEq,Prod.mk.injEq]at h;obtain⟨⟨h1,h2⟩,h3⟩:=h;have hs:gR d (enc k) (e::es) i=(match om d (enc k) e.key with|some true=>some (some (i,e))|some false=>gR d (enc k) es (Nat.succ i)|none=>none):=rfl;rw[hs,h1,hk.same];by_cases P7:k=a
   .subst P7;refine .inl ⟨0,e,by simp,by simp,by simp[xT,h2],?_⟩;show ((⟨enc k,v,e.born⟩:dI)::es).map _=_;simp[re,h3]
   .rcases Ax hk k v clock es m (i+1) h3 with⟨j,e',g1,g2,g3,g4⟩|⟨g1,g2,g3⟩
    .refine .inl ⟨j+1,e',?_,by simp;omega,by simp[xT,P7,g3],?_⟩
     .have:(i+1+j,e')=(i+(j+1),e'):=by rw[Nat.add_assoc,zzj 1 j]
      simp only[P7,decide_false];rw[<-this];exact g1
     .show (e::tF j es ⟨enc k,v,e'.born⟩).map _=_;simp[re,P7,g4,h1,h2]
    .refine .inr ⟨by simp only[P7,decide_false];exact g1,by simp[xT,P7,g2],?_⟩;show (e::gC es [⟨enc k,v,clock⟩]).map _=_;simp[re,P7,g3,h1,h2]
theorem sd{κ:Type}[DecidableEq κ]{cx:Cx}{S:AS}{t:TypeId}{p:TypeDesc×AV}{x:AV}{enc:κ->AV}{m:List (κ×AV)}{k:κ}{ok:Bool}(h:KA cx t=some p)(hk:LS p.1 enc)(hm:Mp S x enc m):
  lY cx S t x (enc k) ok=some (match xT m k with|some v=>cond ok (.tuple [v,.bool true]) v|none=>cond ok (.tuple [p.2,.bool false]) p.2):=by
 obtain⟨kt,et,h1,h2,h3⟩:=zR h;obtain⟨id,es,clock,rfl,h4,h5,h6⟩:=hm;unfold lY;simp only[h1,h2,h3,hk.plain,cond_true,h5];rcases Ax hk k .undef 0 es m 0 h6 with⟨j,e,g1,_,g3,_⟩|⟨g1,g2,_⟩
 .rw[g1,g3]
 .rw[g1,g2]
theorem HP{F:Fr}{cx:Cx}{sz:Nat}:∀(l:List (Nat×Operand))(k:Nat)(pre z:List AV)(vs:List (List AV)),pre.length=k*sz->l.map (·.1)=List.range' k l.length->l.map (fun p=>cellsOf (eval F p.2))=vs.map some->(∀v,v∈vs->v.length=sz)->z.length=l.length*sz ->
  fO cx F (fun i=>some (zzf i sz,sz)) l (pre++z)=some (pre++vs.flatten)
 |[],k,pre,z,vs,_,_,hv,_,hz=>by
  cases vs with
  |nil=>have:z=[]:=List.length_eq_zero_iff.1 (by simpa using hz);subst this;rfl
  |cons v vs=>simp at hv
 |q::l,k,pre,z,vs,hp,hi,hv,hs,hz=>by
  cases vs with
  |nil=>simp at hv
  |cons v vs=>
   simp only[List.map_cons,List.cons.injEq,List.length_cons,List.range'_succ]at hi hv hz;have MW:v.length=sz:=hs v (by simp);have Zd:sz<=z.length:=by rw[hz,zzb];omega
   show (match (some (zzf q.1 sz,sz):Option (Nat×Nat)),cellsOf (eval F q.2)with
    |some (off,size),some new=>cond (Nat.beq (fw new) size&&Nat.ble (Nat.add off size) (fw (pre++z))) (fO cx F (fun i=>some (zzf i sz,sz)) l (Am.dq off (pre++z) new)) none
    |_,_=>none)=_
   rw[hv.1,hi.1];have e1:zzf k sz=k*sz:=rfl;have e2:Nat.add (k*sz) sz=k*sz+sz:=rfl;simp only[bX,bO,cY,MW,e1,e2,zzd,hp];have h2:decide (k*sz+sz<=k*sz+z.length)=true:=by simp[Zd]
   rw[h2];simp only[decide_true,zze,cond_true];have h3:Am.dq (k*sz) (pre++z) v=(pre++v)++z.drop sz:=by
    rw[iu _ _ _ (by simp;omega),<-hp,List.take_left,MW,<-zzl,List.drop_left]
   rw[h3,HP l (k+1) (pre++v) (z.drop sz) vs (by simp[hp,MW,zzb]) hi.2 hv.2 (fun u hu=>hs u (by simp[hu])) (by rw[zzk,hz,zzb];omega)];simp
theorem GK{z:List AV}(n:Nat):(lE n z).length=n*z.length:=by
 induction n with
 |zero=>show ([]:List AV).length=_;simp
 |succ n ih=>
  show (gC z (lE n z)).length=_;rw[bJ,zzd,ih,zzb,zzj]
theorem cg{cx:Cx}{F:Fr}{t:TypeId}{p:Nat×Nat×Nat}{id n:Nat}{a:Array (Nat×Operand)}(vs:List (List AV))(h:qh cx t=some p)(hi:a.toList.map (·.1)=List.range n)(hx:a.toList.map (fun q=>cellsOf (eval F q.2))=vs.map some)(hl:∀v,v∈vs->v.length=p.2.1)(hn:n*p.2.1<=16777216):
  aD cx F id (.buildSlice t n a)=some (.slice id 0 0 n (n*p.2.1) p.2.1 (some n),.row vs.flatten 0 0 false p.1):=by
 obtain⟨hu,hs,hb,hz,hp⟩:=jM h;obtain⟨e,sz,bs⟩:=p;simp only at hu hs hb hz hp hl hn;obtain⟨z0,rfl⟩:∃z0,sz=z0+1:=⟨sz-1,by omega⟩
 have Nj:a.toList.length=n:=by have:=congrArg List.length hi;simpa using this
 unfold lC at hz;cases wz:zeroOf cx e with
 |none=>rw[wz]at hz;cases hz
 |some z=>
  rw[wz]at hz;cases hc:cellsOf z with
  |none=>simp[hc]at hz
  |some zl=>
   simp only[hc]at hz;simp only[bO,bX,decide_eq_true_eq]at hz;unfold aD;simp only[hu,hs,wz,hc];have e1:Nat.succ z0=z0+1:=rfl;have e2:zzf n (z0+1)=n*(z0+1):=rfl;have hb:(Nat.beq (fw zl) (Nat.succ z0)&&Nat.ble (zzf n (Nat.succ z0)) 16777216)=true:=by
    simp only[bO,cY,bX,e1,e2,hz,hn,decide_true,zze]
   rw[hb];simp only[cond_true];have hf:fO cx F (fun i=>some (zzf i (z0+1),z0+1)) a.toList (lE n zl)=some vs.flatten:=by
    have:=HP (cx:=cx) (F:=F) (sz:=z0+1) a.toList 0 [] (lE n zl) vs (by simp) (by rw[Nj,hi,List.range_eq_range']) hx hl (by rw[GK,hz,Nj]);simpa using this
   show (match fO cx F (fun i=>some (zzf i (z0+1),z0+1)) a.toList (lE n zl)with|some cells=>some (AV.slice id 0 0 n (zzf n (z0+1)) (z0+1) (some n),dR.row cells 0 0 false e)|none=>none)=_;rw[hf];rfl
structure de(A:Nat->Prop)(S T:AS):Prop where
 h:∀id,id<S.nx->¬A id->T.h.get id=S.h.get id
 nx:S.nx<=T.nx
theorem de.trans{A:Nat->Prop}{R S T:AS}(h:de A R S)(k:de A S T):de A R T:=⟨fun id h1 h2=>(k.h id (Nat.lt_of_lt_of_le h1 h.nx) h2).trans (h.h id h1 h2),Nat.le_trans h.nx k.nx⟩
theorem Sub.ca{A:Nat->Prop}{S T:AS}(h:Sub S T):de A S T:=⟨fun id h1 _=>h.h id h1,h.nx⟩
theorem Sl.agree{S T:AS}{v:AV}{sz:Nat}{cs:List AV}(h:Sl S v sz cs)(hs:∀id,aE v=id+1->T.h.get id=S.h.get id)(hn:S.nx<=T.nx):Sl T v sz cs:=by
 refine⟨h.sl,?_,h.len,Nat.le_trans h.old hn⟩;rw[<-h.rd];unfold kR;split<;>try rfl
 rename_i i g off n lim z _;cases n with
 |zero=>rfl
 |succ n=>simp only[dN,hs i rfl]
end Go.Am
namespace Go.Am
open Go
theorem Lm{x:AV}{A B A' B':Prop}(h:iH x A B)(ha:A->A')(hb:B->B'):iH x A' B':=by
 unfold iH at h⊢;split at h
 .exact⟨fun e=>ha (h.1 e),fun e=>hb (h.2 e)⟩
 .exact h.elim
theorem yS{R R':Fr->AS->Prop}{Q Q':Ex->Fr->AS->Prop}(hr:∀F S,R F S->R' F S)(hq:∀e F S,Q e F S->Q' e F S):∀e F S,ke R Q e F S->ke R' Q' e F S:=fun e F S h=>by
 cases e<;>first|exact hr _ _ h|exact hq _ _ _ h
theorem IB{id:Nat}{Q Q':Ex->Fr->AS->Prop}(hq:∀e F S,Q e F S->Q' e F S):∀e F S,jZ id Q e F S->jZ id Q' e F S:=fun e F S h=>by
 cases e<;>first
  |exact hq _ _ _ h
  | (rename_i j
     show if j=id then Q' .normal F S else Q' (.exit j) F S
     have h':if j=id then Q .normal F S else Q (.exit j) F S:=h
     split
     .rename_i hj;rw[if_pos hj]at h';exact hq _ _ _ h'
     .rename_i hj;rw[if_neg hj]at h';exact hq _ _ _ h')
theorem Gy{Q Q':Ex->Fr->AS->Prop}(hq:∀e F S,Q e F S->Q' e F S):∀e F S,qJ Q e F S->qJ Q' e F S:=fun e F S h=>by
 cases e<;>first|exact hq _ _ _ h|exact h.elim
theorem LR{cx:Cx}{b:Code}{F:Fr}{S:AS}{Q Q':Ex->Fr->AS->Prop}(h:rR cx b F S Q)(hq:∀e F S,Q e F S->Q' e F S):rR cx b F S Q':=fun hc=>by
 obtain⟨n,h2⟩:=h hc;exact⟨n,h2.mono fun o ho=>⟨hq _ _ _ ho.1,ho.2⟩⟩
theorem RE{cx:Cx}:∀(c:Code){F:Fr}{S:AS}{Q Q':Ex->Fr->AS->Prop},mc cx c F S Q->(∀e F S,Q e F S->Q' e F S)->mc cx c F S Q':=by
 intro c
 induction c with
 |skip=>intro F S Q Q' h k;exact k _ _ _ h
 |region id ops d=>
  intro F S Q Q' h k;cases d with
  |false=>exact CA (show uQ cx ops.toList ops.toList F S (Q .normal) from h) fun F S h=>k _ _ _ h
  |true=>exact H7 _ (show lL cx ops.toList F S (Q .normal) from h) fun F S h=>k _ _ _ h
 |seq a b Ef xu=>
  intro F S Q Q' h k;exact Ef (show mc cx a F S (ke (fun F' S'=>mc cx b F' S' Q) Q) from h) (yS (fun F S h=>xu h k) k)
 |cond x a b Ef xu=>
  intro F S Q Q' h k;exact Lm (show iH (eval F x) (mc cx a F S Q) (mc cx b F S Q) from h) (fun h=>Ef h k) (fun h=>xu h k)
 |block id b ih=>
  intro F S Q Q' h k;exact ih (show mc cx b F S (jZ id Q) from h) (IB k)
 |loop b _=>
  intro F S Q Q' h k;exact LR (show rR cx b F S Q from h) k
 |rangeFunc x p a b _ _=>intro F S Q Q' h k;exact (show False from h).elim
 |exit id=>intro F S Q Q' h k;exact k _ _ _ h
 |scope b ih=>
  intro F S Q Q' h k;exact ih (show mc cx b F S (qJ Q) from h) (Gy k)
 |label l=>intro F S Q Q' h k;exact k _ _ _ h
 |goto l=>intro F S Q Q' h k;exact (show False from h).elim
 |ret=>intro F S Q Q' h k;exact k _ _ _ h
 |refuse w=>intro F S Q Q' h k;exact (show False from h).elim
theorem nK{cx:Cx}{c:Code}{F:Fr}{S:AS}{R:Fr->AS->Prop}{Q:Ex->Fr->AS->Prop}(Ce:Fr->AS->Prop)(h1:mc cx c F S (ke Ce Q))(h2:∀F' S',Ce F' S'->R F' S'):mc cx c F S (ke R Q):=
 RE c h1 (yS h2 fun _ _ _ h=>h)
end Go.Am
