/-
  The abstract machine: slices whose elements have several cells, maps with keys that are numbers, footprints.
-/
import Derived.Test.YthklfandhmkpiaaGreatDoorAmRow
open Nat renaming succ_mul->zza,le_refl->zzb,mul->zzf
open List renaming flatMap_cons->zzc,length_append->zzd,drop_drop->zzg
open Bool renaming and_self->zze
open Option.some renaming injEq->zzh
set_option linter.unusedSimpArgs false
namespace Go.Am
open Go
def EH(v:AV)(j:Nat):AV:=match v with | .ptr id g off aM=>.ptr id g (off+j) aM|_=>.undef
def isP:AV->Bool | .ptr ..=>true|_=>false
theorem gN{v:AV}{o:Nat}(h:isP v=true):nk v (some o)=some (EH v o):=by
 cases v<;>simp[isP]at h;rfl
theorem AK{v:AV}{k n:Nat}(hv:isSl n v=true)(h:k<sLen v):isP (wV v k)=true:=by
 cases v<;>simp[isSl]at hv
 .simp[sLen]at h
 .rfl
theorem fm_len{α:Type}{sz:Nat}{enc:α->List AV}(hz:∀x,(enc x).length=sz)(L:List α):(L.flatMap enc).length=L.length*sz:=by
 induction L with
 |nil=>simp
 |cons x l ih=>rw[zzc,zzd,ih,hz,List.length_cons,zza];omega
theorem fm_drop{α:Type}{sz:Nat}{enc:α->List AV}(hz:∀x,(enc x).length=sz):∀(L:List α)(k:Nat),(L.flatMap enc).drop (k*sz)=(L.drop k).flatMap enc
 |[],k=>by simp
 |x::l,0=>by simp
 |x::l,k+1=>by
  rw[zzc,List.drop_succ_cons,<-fm_drop hz l k,zza,Nat.add_comm,<-zzg];rw[<-hz x,List.drop_left]
theorem fm_take{α:Type}{sz:Nat}{enc:α->List AV}(hz:∀x,(enc x).length=sz):∀(L:List α)(k:Nat),(L.flatMap enc).take (k*sz)=(L.take k).flatMap enc
 |[],k=>by simp
 |x::l,0=>by simp
 |x::l,k+1=>by
  rw[zzc,List.take_succ_cons,zzc,<-fm_take hz l k,zza,Nat.add_comm,<-hz x,List.take_length_add_append]
theorem fm_get{α:Type}{sz:Nat}{enc:α->List AV}(hz:∀x,(enc x).length=sz){L:List α}{k:Nat}{x:α}(h:L[k]?=some x):((L.flatMap enc).drop (k*sz)).take sz=enc x:=by
 obtain⟨hk,rfl⟩:=List.getElem?_eq_some_iff.1 h;rw[fm_drop hz,List.drop_eq_getElem_cons hk,zzc,List.take_left' (hz _)]
section
variable{cx:Cx}{S:AS}{v:AV}{α:Type}{sz k:Nat}{enc:α->List AV}{L:List α}{x:α}{e:TypeId}
theorem Sl.bj(h:Sl S v sz (L.flatMap enc))(hz:∀x,(enc x).length=sz)(hp:0<sz):sLen v=L.length:=by
 have:=h.len;rw[fm_len hz]at this;exact (Nat.eq_of_mul_eq_mul_right hp this).symm
theorem bh(h:Sl S v sz (L.flatMap enc))(hz:∀x,(enc x).length=sz)(hp:0<sz)(hk:L[k]?=some x)(ha:aX cx e=some true)(hs:aH cx e=some sz):loadT cx S e (wV v k)=some (.agg (enc x)):=by
 rw[loadT_agg h (by rw[h.bj hz hp];exact (List.getElem?_eq_some_iff.1 hk).1) ha hs,fm_get hz hk]
theorem rd_el(h:Sl S v sz (L.flatMap enc))(hz:∀x,(enc x).length=sz)(hp:0<sz)(hk:L[k]?=some x):∃id g off n aM cap,v=.slice id g off n aM sz cap/\k<n /\
  ∃cells low top frz e,S.h.get id=some (.row cells low top frz e)/\low<=g/\g<=top/\off+n*sz<=aM/\(cells.drop (off+k*sz)).take sz=enc x:=by
 have hkl:k<sLen v:=by rw[h.bj hz hp];exact (List.getElem?_eq_some_iff.1 hk).1
 obtain⟨id,g,off,n,aM,cap,rfl,cells,low,top,frz,e',hg,h1,h2,h3,h4⟩:=qN h hkl;simp only[sLen]at hkl;refine⟨id,g,off,n,aM,cap,rfl,hkl,cells,low,top,frz,e',hg,h1,h2,h3,?_⟩;have hle:k*sz+sz<=n*sz:=by rw[<-zza];exact Nat.mul_le_mul_right _ hkl
 rw[<-fm_get hz hk,<-h4,List.drop_take,List.take_take,Nat.min_eq_left (by omega),zzg]
theorem yS{o:Nat}{y:AV}(h:Sl S v sz (L.flatMap enc))(hz:∀x,(enc x).length=sz)(hp:0<sz)(hk:L[k]?=some x)(hy:(enc x)[o]?=some y)(ha:aX cx e=some false):loadT cx S e (EH (wV v k) o)=some y:=by
 obtain⟨id,g,off,n,aM,cap,rfl,hkl,cells,low,top,frz,e',hg,h1,h2,h3,h4⟩:=rd_el h hz hp hk;have ho:o<sz:=by rw[<-hz x];exact (List.getElem?_eq_some_iff.1 hy).1
 have hle:k*sz+sz<=n*sz:=by rw[<-zza];exact Nat.mul_le_mul_right _ hkl
 simp only[wV,EH,oW,re,ha,sg,hg,cr];rw[if_pos ⟨h1,h2,by omega⟩];have:(cells.drop (off+k*sz+o)).take 1=[y]:=by
  rw[<-h4,List.getElem?_take,if_pos ho,List.getElem?_drop]at hy;rw[List.take_one,List.head?_drop,hy];rfl
 rw[this];rfl
end
def capN(n:Nat):Option Nat->Bool|none=>true|some c=>decide (c=n)
def Gw(S:AS)(v:AV)(sz e:Nat)(cs:List AV):Prop:=
 Sl S v sz cs/\(v=.ar\/∃id g off n aM cap,v=.slice id g off n aM sz cap/\capN n cap=true/\id<S.nx/\∃cells low top,S.h.get id=some (.row cells low top false e)/\low<=g/\g=top)
theorem Gw.nil{S:AS}{sz e:Nat}:Gw S .ar sz e []:=⟨Sl.nil,.inl rfl⟩
theorem Own.gw{S:AS}{lo:Nat}{v:AV}{sz e:Nat}{cs:List AV}(h:Own S lo v sz e cs):Gw S v sz e cs:=by
 refine⟨h.sl,?_⟩;rcases h with⟨rfl,rfl⟩|⟨id,g,low,n,rfl,h1,h2,h3,h4,h5⟩
 .exact .inl rfl
 .exact .inr ⟨id,g,0,n,n*sz,none,rfl,rfl,h2,cs,low,g,h3,h4,rfl⟩
theorem Gw.cE{S T:AS}{v:AV}{sz e:Nat}{cs:List AV}(h:Gw S v sz e cs)(hs:∀id,aV v=id+1->T.h.get id=S.h.get id)(hn:S.nx<=T.nx):Gw T v sz e cs:=by
 obtain⟨h1,h2⟩:=h;refine⟨⟨h1.sl,?_,h1.len,Nat.le_trans h1.old hn⟩,?_⟩
 .have hr:=h1.rd;rw[<-hr];unfold lY;split<;>try rfl
  rename_i i g off n aM z _;cases n with
  |zero=>rfl
  |succ n=>simp only[dP,hs i rfl]
 .rcases h2 with rfl|⟨id,g,off,n,aM,cap,rfl,hc,cR,cells,low,top,hg,hl⟩
  .exact .inl rfl
  .exact .inr ⟨id,g,off,n,aM,cap,rfl,hc,Nat.lt_of_lt_of_le cR hn,cells,low,top,by rw[hs id rfl];exact hg,hl⟩
def capNo:AV->Bool | .slice _ _ _ _ _ _ (some _)=>false|_=>true
theorem dr{cx:Cx}{S:AS}{t u:Nat}{ts:List TypeId}{p:Nat×Nat×Nat}{v x:AV}{cs ds:List AV}{d:TypeDesc}(h:n9 cx t=some p)(hu:bJ cx u=some d)(hd:notInt d=true)
  (ho:Gw S v p.2.1 p.1 cs) (hx:Sl S x p.2.1 ds) (hf:fits (sLen v+sLen x) p.2.2=true) :
  ∃v' T,aY cx S .append (t::u::ts) [v,x]=.val v' T/\Gw T v' p.2.1 p.1 (cs++ds)/\(∀id,id<S.nx->id+1≠aV v->T.h.get id=S.h.get id)/\S.nx<=T.nx/\sLen v'=sLen v+sLen x/\(isNil v'=(isNil v&&decide (sLen x=0))) /\
   (aV v'=aV v\/S.nx<aV v')/\(sLen x≠0->capNo v'=true):=by
 have ht:=taken_sl hx;have hlen:=hx.len;rw[wu h hu hd];obtain⟨ho1,pz⟩:=ho;cases hn:sLen x with
 |zero=>
  rw[hn]at ht hlen;have hds:ds=[]:=by rw[Nat.zero_mul]at hlen;exact List.length_eq_zero_iff.1 hlen
  subst hds;refine⟨v,S,?_,by rw[List.append_nil];exact⟨ho1,pz⟩,fun _ _ _=>rfl,zzb _,rfl,by simp,.inl rfl,fun h=>absurd rfl h⟩;unfold gg;rcases pz with rfl|⟨id,g,off,n,aM,cap,rfl,_⟩
  .simp[ht,dO]
  .simp[ht,bC,dO]
 |succ m=>
  rw[hn]at ht hlen hf;rcases pz with rfl|⟨id,g,off,n,aM,cap,rfl,hc,cR,cells,low,top,hg,hl,htq⟩
  .have hcs:cs=[]:=by have:=ho1.rd;simp only[lY,zzh]at this;exact this.symm
   subst hcs;have qf:Own (⟨S.h.set S.nx (.row ds 0 0 false p.1),S.nx+1⟩:AS) S.nx (.slice S.nx 0 0 (m+1) ((m+1)*p.2.1) p.2.1 none) p.2.1 p.1 ds:=
    .inr ⟨S.nx,0,0,m+1,rfl,zzb _,Nat.lt_succ_self _,get_set_same _ _ _,zzb _,hlen⟩
   refine⟨.slice S.nx 0 0 (m+1) ((m+1)*p.2.1) p.2.1 none,⟨S.h.set S.nx (.row ds 0 0 false p.1),S.nx+1⟩,?_,qf.gw,fun i hi _=>ah _ _ (by omega),Nat.le_succ _,by simp[sLen],by simp[isNil],.inr (by simp[aV]),fun _=>rfl⟩;unfold gg;have Dz:fits (m+1) p.2.2=true:=by simpa[sLen]using hf
   simp only[ht,Dz,cond_true,grown];simp[dO]
  .have Dq:g<=top:=Nat.le_of_eq htq;have sB:(cells.drop off).take (n*p.2.1)=cs/\cs.length=n*p.2.1:=by
    have h1:=ho1.rd;have h2:=ho1.len;simp only[sLen]at h2;refine⟨?_,h2⟩;cases n with
    |zero=>simp only[lY,zzh]at h1;subst h1;simp
    |succ n=>
     simp only[lY,dP,hg,cr]at h1;split at h1
     .simpa using h1
     .cases h1
   obtain⟨sB,hcn⟩:=sB;have kk:(cs++ds).length=(n+(m+1))*p.2.1:=by rw[zzd,hcn,hlen];exact (Nat.add_mul n (m+1) p.2.1).symm
   simp only[sLen]at hf;have e1:Nat.add n (m+1)=n+(m+1):=rfl;have e2:zzf n p.2.1=n*p.2.1:=rfl;have e3:zzf (n+(m+1)) p.2.1=(n+(m+1))*p.2.1:=rfl;cases cap with
   |some c=>
    simp only[capN,decide_eq_true_eq]at hc;subst hc;have qf:Own (⟨S.h.set S.nx (.row (cs++ds) 0 0 false p.1),S.nx+1⟩:AS) S.nx (.slice S.nx 0 0 (c+(m+1)) ((c+(m+1))*p.2.1) p.2.1 none) p.2.1 p.1 (cs++ds):=
     .inr ⟨S.nx,0,0,c+(m+1),rfl,zzb _,Nat.lt_succ_self _,get_set_same _ _ _,zzb _,kk⟩
    refine⟨.slice S.nx 0 0 (c+(m+1)) ((c+(m+1))*p.2.1) p.2.1 none,_,?_,qf.gw,fun i hi _=>ah _ _ (by omega),Nat.le_succ _,rfl,by simp[isNil],.inr (by simp[aV]),fun _=>rfl⟩;unfold gg;have e4:decide (c+(m+1)<=c)=false:=by simp
    simp only[ht,bC,decide_true,cond_true,hg,cG,hl,Dq,zze,aQ,e1,hf,e2,e4,cond_false,grown,cK,cY,cA,e3,sB];rfl
   |none=>
    unfold gg;by_cases hw:(decide (off=0)&&decide (g=top)&&decide (cells.length=n*p.2.1))=true
    .simp only[Bool.and_eq_true,decide_eq_true_eq]at hw;obtain⟨⟨rfl,rfl⟩,hw⟩:=hw;have sC:cells=cs:=by rw[<-sB,List.drop_zero,<-hw,List.take_length]
     subst sC;refine⟨.slice id (g+1) 0 (n+(m+1)) ((n+(m+1))*p.2.1) p.2.1 none,⟨S.h.set id (.row (cells++ds) low (g+1) false p.1),S.nx⟩,?_,?_,fun i hi cl=>ah _ _ (fun e=>cl (by simp[aV,e])),zzb _,rfl,by simp[isNil],.inl rfl,fun _=>rfl⟩
     .simp only[ht,bC,decide_true,cond_true,hg,cG,hl,zzb,zze,aQ,e1,hf,Bool.not_true,Bool.or_false,cond_false,bL,hcn,e2,e3,cA];rfl
     .have qf:Own (⟨S.h.set id (.row (cells++ds) low (g+1) false p.1),S.nx⟩:AS) 0 (.slice id (g+1) 0 (n+(m+1)) ((n+(m+1))*p.2.1) p.2.1 none) p.2.1 p.1 (cells++ds):=
       .inr ⟨id,g+1,low,n+(m+1),rfl,Nat.zero_le _,cR,get_set_same _ _ _,Nat.le_succ_of_le hl,kk⟩
      exact qf.gw
    .have EV:(decide (off=0)&&decide (g=top)&&decide (cells.length=n*p.2.1))=false:=by simpa using hw
     refine⟨.slice id (top+1) 0 (n+(m+1)) ((n+(m+1))*p.2.1) p.2.1 none,⟨S.h.set id (.row (cs++ds) (top+1) (top+1) false p.1),S.nx⟩,?_,?_,fun i hi cl=>ah _ _ (fun e=>cl (by simp[aV,e])),zzb _,rfl,by simp[isNil],.inl rfl,fun _=>rfl⟩
     .simp only[ht,bC,decide_true,cond_true,hg,cG,hl,Dq,zze,aQ,e1,hf,Bool.not_true,Bool.or_false,cond_false,bL,e2,e3,cA,cK,cY,sB,EV];rfl
     .have qf:Own (⟨S.h.set id (.row (cs++ds) (top+1) (top+1) false p.1),S.nx⟩:AS) 0 (.slice id (top+1) 0 (n+(m+1)) ((n+(m+1))*p.2.1) p.2.1 none) p.2.1 p.1 (cs++ds):=
       .inr ⟨id,top+1,top+1,n+(m+1),rfl,Nat.zero_le _,cR,get_set_same _ _ _,zzb _,kk⟩
      exact qf.gw
structure KeyE{κ:Type}[DecidableEq κ](d:TypeDesc)(enc:κ->AV):Prop where
 same:∀a b,uQ d (enc a) (enc b)=some (decide (a=b))
 plain:∀a,plainKey d (enc a)=true
theorem DM{F:Fr}{cx:Cx}{sz:Nat}:∀(l:List (Nat×Operand))(k:Nat)(pre z:List AV)(vs:List (List AV)),pre.length=k*sz->l.map (·.1)=List.range' k l.length->l.map (fun p=>cellsOf (eval F p.2))=vs.map some->(∀v,v∈vs->v.length=sz)->z.length=l.length*sz ->
  e9 cx F (fun i=>some (zzf i sz,sz)) l (pre++z)=some (pre++vs.flatten)
 |[],k,pre,z,vs,_,_,hv,_,hz=>by
  cases vs with
  |nil=>have:z=[]:=List.length_eq_zero_iff.1 (by simpa using hz);subst this;rfl
  |cons v vs=>simp at hv
 |q::l,k,pre,z,vs,hp,hi,hv,hs,hz=>by
  cases vs with
  |nil=>simp at hv
  |cons v vs=>
   simp only[List.map_cons,List.cons.injEq,List.length_cons,List.range'_succ]at hi hv hz;have hvl:v.length=sz:=hs v (by simp);have hzl:sz<=z.length:=by rw[hz,zza];omega
   show (match (some (zzf q.1 sz,sz):Option (Nat×Nat)),cellsOf (eval F q.2)with
    |some (off,size),some new=>cond (Nat.beq (dN new) size&&Nat.ble (Nat.add off size) (dN (pre++z))) (e9 cx F (fun i=>some (zzf i sz,sz)) l (Am.ec off (pre++z) new)) none
    |_,_=>none)=_
   rw[hv.1,hi.1];have e1:zzf k sz=k*sz:=rfl;have e2:Nat.add (k*sz) sz=k*sz+sz:=rfl;simp only[bL,bC,cG,hvl,e1,e2,zzd,hp];have h2:decide (k*sz+sz<=k*sz+z.length)=true:=by simp[hzl]
   rw[h2];simp only[decide_true,zze,cond_true];have h3:Am.ec (k*sz) (pre++z) v=(pre++v)++z.drop sz:=by
    rw[iG _ _ _ (by simp;omega),<-hp,List.take_left,hvl,<-zzg,List.drop_left]
   rw[h3,DM l (k+1) (pre++v) (z.drop sz) vs (by simp[hp,hvl,zza]) hi.2 hv.2 (fun u hu=>hs u (by simp[hu])) (by rw[List.length_drop,hz,zza];omega)];simp
theorem CD{z:List AV}(n:Nat):(fD n z).length=n*z.length:=by
 induction n with
 |zero=>show ([]:List AV).length=_;simp
 |succ n ih=>
  show (gR z (fD n z)).length=_;rw[cA,zzd,ih,zza,Nat.add_comm]
theorem bA{cx:Cx}{F:Fr}{t:TypeId}{p:Nat×Nat×Nat}{id n:Nat}{a:Array (Nat×Operand)}(vs:List (List AV))(h:n9 cx t=some p)(hi:a.toList.map (·.1)=List.range n)(hx:a.toList.map (fun q=>cellsOf (eval F q.2))=vs.map some)(hl:∀v,v∈vs->v.length=p.2.1)(hn:n*p.2.1<=16777216):
  aO cx F id (.buildSlice t n a)=some (.slice id 0 0 n (n*p.2.1) p.2.1 (some n),.row vs.flatten 0 0 false p.1):=by
 obtain⟨hu,hs,hb,hz,hp⟩:=ig h;obtain⟨e,sz,bs⟩:=p;simp only at hu hs hb hz hp hl hn;obtain⟨z0,rfl⟩:∃z0,sz=z0+1:=⟨sz-1,by omega⟩
 have hal:a.toList.length=n:=by have:=congrArg List.length hi;simpa using this
 unfold jq at hz;cases su:zeroOf cx e with
 |none=>rw[su]at hz;cases hz
 |some z=>
  rw[su]at hz;cases hc:cellsOf z with
  |none=>simp[hc]at hz
  |some zl=>
   simp only[hc]at hz;simp only[bC,bL,decide_eq_true_eq]at hz;unfold aO;simp only[hu,hs,su,hc];have e1:Nat.succ z0=z0+1:=rfl;have e2:zzf n (z0+1)=n*(z0+1):=rfl;have hb:(Nat.beq (dN zl) (Nat.succ z0)&&Nat.ble (zzf n (Nat.succ z0)) 16777216)=true:=by
    simp only[bC,cG,bL,e1,e2,hz,hn,decide_true,zze]
   rw[hb];simp only[cond_true];have hf:e9 cx F (fun i=>some (zzf i (z0+1),z0+1)) a.toList (fD n zl)=some vs.flatten:=by
    have:=DM (cx:=cx) (F:=F) (sz:=z0+1) a.toList 0 [] (fD n zl) vs (by simp) (by rw[hal,hi,List.range_eq_range']) hx hl (by rw[CD,hz,hal]);simpa using this
   show (match e9 cx F (fun i=>some (zzf i (z0+1),z0+1)) a.toList (fD n zl)with|some cells=>some (AV.slice id 0 0 n (zzf n (z0+1)) (z0+1) (some n),dp.row cells 0 0 false e)|none=>none)=_;rw[hf];rfl
structure kO(A:Nat->Prop)(S T:AS):Prop where
 h:∀id,id<S.nx->¬A id->T.h.get id=S.h.get id
 nx:S.nx<=T.nx
theorem kO.trans{A:Nat->Prop}{R S T:AS}(h:kO A R S)(k:kO A S T):kO A R T:=⟨fun id h1 h2=>(k.h id (Nat.lt_of_lt_of_le h1 h.nx) h2).trans (h.h id h1 h2),Nat.le_trans h.nx k.nx⟩
theorem Sub.fM{A:Nat->Prop}{S T:AS}(h:Sub S T):kO A S T:=⟨fun id h1 _=>h.h id h1,h.nx⟩
theorem Sl.cE{S T:AS}{v:AV}{sz:Nat}{cs:List AV}(h:Sl S v sz cs)(hs:∀id,aV v=id+1->T.h.get id=S.h.get id)(hn:S.nx<=T.nx):Sl T v sz cs:=by
 refine⟨h.sl,?_,h.len,Nat.le_trans h.old hn⟩;rw[<-h.rd];unfold lY;split<;>try rfl
 rename_i i g off n aM z _;cases n with
 |zero=>rfl
 |succ n=>simp only[dP,hs i rfl]
end Go.Am
namespace Go.Am
open Go
theorem condP_mono{x:AV}{A B A' B':Prop}(h:jE x A B)(ha:A->A')(hb:B->B'):jE x A' B':=by
 unfold jE at h⊢;split at h
 .exact⟨fun e=>ha (h.1 e),fun e=>hb (h.2 e)⟩
 .exact h.elim
theorem uC{R R':Fr->AS->Prop}{Q Q':Ex->Fr->AS->Prop}(hr:∀F S,R F S->R' F S)(hq:∀e F S,Q e F S->Q' e F S):∀e F S,n0 R Q e F S->n0 R' Q' e F S:=fun e F S h=>by
 cases e<;>first|exact hr _ _ h|exact hq _ _ _ h
theorem En{id:Nat}{Q Q':Ex->Fr->AS->Prop}(hq:∀e F S,Q e F S->Q' e F S):∀e F S,oG id Q e F S->oG id Q' e F S:=fun e F S h=>by
 cases e<;>first
  |exact hq _ _ _ h
  | (rename_i j
     show if j=id then Q' .normal F S else Q' (.exit j) F S
     have h':if j=id then Q .normal F S else Q (.exit j) F S:=h
     split
     .rename_i hj;rw[if_pos hj]at h';exact hq _ _ _ h'
     .rename_i hj;rw[if_neg hj]at h';exact hq _ _ _ h')
theorem Cs{Q Q':Ex->Fr->AS->Prop}(hq:∀e F S,Q e F S->Q' e F S):∀e F S,od Q e F S->od Q' e F S:=fun e F S h=>by
 cases e<;>first|exact hq _ _ _ h|exact h.elim
theorem LoopP_mono{cx:Cx}{b:Code}{F:Fr}{S:AS}{Q Q':Ex->Fr->AS->Prop}(h:tG cx b F S Q)(hq:∀e F S,Q e F S->Q' e F S):tG cx b F S Q':=fun hc=>by
 obtain⟨n,h2⟩:=h hc;exact⟨n,h2.mono fun o ho=>⟨hq _ _ _ ho.1,ho.2⟩⟩
theorem wpP_mono{cx:Cx}:∀(c:Code){F:Fr}{S:AS}{Q Q':Ex->Fr->AS->Prop},kE cx c F S Q->(∀e F S,Q e F S->Q' e F S)->kE cx c F S Q':=by
 intro c
 induction c with
 |skip=>intro F S Q Q' h k;exact k _ _ _ h
 |region id ops d=>
  intro F S Q Q' h k;cases d with
  |false=>exact yI (show qU cx ops.toList ops.toList F S (Q .normal) from h) fun F S h=>k _ _ _ h
  |true=>exact aJ _ (show lD cx ops.toList F S (Q .normal) from h) fun F S h=>k _ _ _ h
 |seq a b iha Dl=>
  intro F S Q Q' h k;exact iha (show kE cx a F S (n0 (fun F' S'=>kE cx b F' S' Q) Q) from h) (uC (fun F S h=>Dl h k) k)
 |cond x a b iha Dl=>
  intro F S Q Q' h k;exact condP_mono (show jE (eval F x) (kE cx a F S Q) (kE cx b F S Q) from h) (fun h=>iha h k) (fun h=>Dl h k)
 |block id b ih=>
  intro F S Q Q' h k;exact ih (show kE cx b F S (oG id Q) from h) (En k)
 |loop b _=>
  intro F S Q Q' h k;exact LoopP_mono (show tG cx b F S Q from h) k
 |rangeFunc x p a b _ _=>intro F S Q Q' h k;exact (show False from h).elim
 |exit id=>intro F S Q Q' h k;exact k _ _ _ h
 |scope b ih=>
  intro F S Q Q' h k;exact ih (show kE cx b F S (od Q) from h) (Cs k)
 |label l=>intro F S Q Q' h k;exact k _ _ _ h
 |goto l=>intro F S Q Q' h k;exact (show False from h).elim
 |ret=>intro F S Q Q' h k;exact k _ _ _ h
 |refuse w=>intro F S Q Q' h k;exact (show False from h).elim
theorem vY{cx:Cx}{c:Code}{F:Fr}{S:AS}{R:Fr->AS->Prop}{Q:Ex->Fr->AS->Prop}(Mid:Fr->AS->Prop)(h1:kE cx c F S (n0 Mid Q))(h2:∀F' S',Mid F' S'->R F' S'):kE cx c F S (n0 R Q):=
 wpP_mono c h1 (uC h2 fun _ _ _ h=>h)
end Go.Am
