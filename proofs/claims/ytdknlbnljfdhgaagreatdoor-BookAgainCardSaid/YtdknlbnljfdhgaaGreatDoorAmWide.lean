/-
  The abstract machine: slices whose elements have several cells, maps with keys that are numbers, footprints.
-/
import Derived.Test.YtdknlbnljfdhgaaGreatDoorAmRow
namespace Go.Am
open Go
set_option linter.unusedSimpArgs false
def oa(v:AV)(j:Nat):AV:=match v with | .ptr id g off lim=>.ptr id g (off+j) lim|_=>.undef
theorem wM{v:AV}{j:Nat}:qR (oa v j)=true:=by cases v<;>rfl
def isP:AV->Bool | .ptr ..=>true|_=>false
theorem c8{v:AV}{o:Nat}(h:isP v=true):fV v (some o)=some (oa v o):=by
 cases v<;>simp[isP]at h;rfl
theorem lY{v:AV}{k n:Nat}(hv:isSl n v=true)(h:k<sLen v):isP (j5 v k)=true:=by
 cases v<;>simp[isSl]at hv
 .simp[sLen]at h
 .rfl
theorem fm_len{α:Type}{sz:Nat}{enc:α->List AV}(hz:∀x,(enc x).length=sz)(L:List α):(L.flatMap enc).length=L.length*sz:=by
 induction L with
 |nil=>simp
 |cons x l ih=>rw[List.flatMap_cons,List.length_append,ih,hz,List.length_cons,Nat.succ_mul];omega
theorem fm_drop{α:Type}{sz:Nat}{enc:α->List AV}(hz:∀x,(enc x).length=sz):∀(L:List α)(k:Nat),(L.flatMap enc).drop (k*sz)=(L.drop k).flatMap enc
 |[],k=>by simp
 |x::l,0=>by simp
 |x::l,k+1=>by
  rw[List.flatMap_cons,List.drop_succ_cons,<-fm_drop hz l k,Nat.succ_mul,Nat.add_comm,<-List.drop_drop];rw[<-hz x,List.drop_left]
theorem fm_take{α:Type}{sz:Nat}{enc:α->List AV}(hz:∀x,(enc x).length=sz):∀(L:List α)(k:Nat),(L.flatMap enc).take (k*sz)=(L.take k).flatMap enc
 |[],k=>by simp
 |x::l,0=>by simp
 |x::l,k+1=>by
  rw[List.flatMap_cons,List.take_succ_cons,List.flatMap_cons,<-fm_take hz l k,Nat.succ_mul,Nat.add_comm,<-hz x,List.take_length_add_append]
theorem fm_get{α:Type}{sz:Nat}{enc:α->List AV}(hz:∀x,(enc x).length=sz){L:List α}{k:Nat}{x:α}(h:L[k]?=some x):((L.flatMap enc).drop (k*sz)).take sz=enc x:=by
 obtain⟨hk,rfl⟩:=List.getElem?_eq_some_iff.1 h;rw[fm_drop hz,List.drop_eq_getElem_cons hk,List.flatMap_cons,List.take_left' (hz _)]
section
variable{cx:Cx}{S:AS}{v:AV}{α:Type}{sz k:Nat}{enc:α->List AV}{L:List α}{x:α}{e:TypeId}
theorem Sl.aM(h:Sl S v sz (L.flatMap enc))(hz:∀x,(enc x).length=sz)(hp:0<sz):sLen v=L.length:=by
 have:=h.len;rw[fm_len hz]at this;exact (Nat.eq_of_mul_eq_mul_right hp this).symm
theorem cZ(h:Sl S v sz (L.flatMap enc))(hz:∀x,(enc x).length=sz)(hp:0<sz)(hk:L[k]?=some x)(ha:aG cx e=some true)(hs:aE cx e=some sz):loadT cx S e (j5 v k)=some (.agg (enc x)):=by
 rw[loadT_agg h (by rw[h.aM hz hp];exact (List.getElem?_eq_some_iff.1 hk).1) ha hs,fm_get hz hk]
theorem rd_el(h:Sl S v sz (L.flatMap enc))(hz:∀x,(enc x).length=sz)(hp:0<sz)(hk:L[k]?=some x):∃id g off n lim cap,v=.slice id g off n lim sz cap/\k<n /\
  ∃cells low top frz e,S.h.get id=some (.row cells low top frz e)/\low<=g/\g<=top/\off+n*sz<=lim/\(cells.drop (off+k*sz)).take sz=enc x:=by
 have vk:k<sLen v:=by rw[h.aM hz hp];exact (List.getElem?_eq_some_iff.1 hk).1
 obtain⟨id,g,off,n,lim,cap,rfl,cells,low,top,frz,e',hg,h1,h2,h3,h4⟩:=pa h vk;simp only[sLen]at vk;refine⟨id,g,off,n,lim,cap,rfl,vk,cells,low,top,frz,e',hg,h1,h2,h3,?_⟩;have hle:k*sz+sz<=n*sz:=by rw[<-Nat.succ_mul];exact Nat.mul_le_mul_right _ vk
 rw[<-fm_get hz hk,<-h4,List.drop_take,List.take_take,Nat.min_eq_left (by omega),List.drop_drop]
theorem dF{o:Nat}{y:AV}(h:Sl S v sz (L.flatMap enc))(hz:∀x,(enc x).length=sz)(hp:0<sz)(hk:L[k]?=some x)(hy:(enc x)[o]?=some y)(ha:aG cx e=some false):loadT cx S e (oa (j5 v k) o)=some y:=by
 obtain⟨id,g,off,n,lim,cap,rfl,vk,cells,low,top,frz,e',hg,h1,h2,h3,h4⟩:=rd_el h hz hp hk;have ho:o<sz:=by rw[<-hz x];exact (List.getElem?_eq_some_iff.1 hy).1
 have hle:k*sz+sz<=n*sz:=by rw[<-Nat.succ_mul];exact Nat.mul_le_mul_right _ vk
 simp only[j5,oa,gy,iW,ha,kT,hg,bt];rw[if_pos ⟨h1,h2,by omega⟩];have:(cells.drop (off+k*sz+o)).take 1=[y]:=by
  rw[<-h4,List.getElem?_take,if_pos ho,List.getElem?_drop]at hy;rw[List.take_one,List.head?_drop,hy];rfl
 rw[this];rfl
end
def Fu(n:Nat):Option Nat->Bool|none=>true|some c=>decide (c=n)
def Gw(S:AS)(v:AV)(sz e:Nat)(cs:List AV):Prop:=
 Sl S v sz cs/\(v=.aq\/∃id g off n lim cap,v=.slice id g off n lim sz cap/\Fu n cap=true/\id<S.next/\∃cells low top,S.h.get id=some (.row cells low top false e)/\low<=g/\g=top)
theorem Gw.nil{S:AS}{sz e:Nat}:Gw S .aq sz e []:=⟨Sl.nil,.inl rfl⟩
theorem Own.gw{S:AS}{lo:Nat}{v:AV}{sz e:Nat}{cs:List AV}(h:Own S lo v sz e cs):Gw S v sz e cs:=by
 refine⟨h.sl,?_⟩;rcases h with⟨rfl,rfl⟩|⟨id,g,low,n,rfl,h1,h2,h3,h4,h5⟩
 .exact .inl rfl
 .exact .inr ⟨id,g,0,n,n*sz,none,rfl,rfl,h2,cs,low,g,h3,h4,rfl⟩
theorem Gw.agree{S T:AS}{v:AV}{sz e:Nat}{cs:List AV}(h:Gw S v sz e cs)(hs:∀id,aB v=id+1->T.h.get id=S.h.get id)(hn:S.next<=T.next):Gw T v sz e cs:=by
 obtain⟨h1,h2⟩:=h;refine⟨⟨h1.sl,?_,h1.len,Nat.le_trans h1.old hn⟩,?_⟩
 .have hr:=h1.rd;rw[<-hr];unfold jR;split<;>try rfl
  rename_i i g off n lim z _;cases n with
  |zero=>rfl
  |succ n=>simp only[dJ,hs i rfl]
 .rcases h2 with rfl|⟨id,g,off,n,lim,cap,rfl,hc,cq,cells,low,top,hg,hl⟩
  .exact .inl rfl
  .exact .inr ⟨id,g,off,n,lim,cap,rfl,hc,Nat.lt_of_lt_of_le cq hn,cells,low,top,by rw[hs id rfl];exact hg,hl⟩
def capNo:AV->Bool | .slice _ _ _ _ _ _ (some _)=>false|_=>true
theorem eB{cx:Cx}{S:AS}{t u:Nat}{ts:List TypeId}{p:Nat×Nat×Nat}{v x:AV}{cs ds:List AV}{d:TypeDesc}(h:oz cx t=some p)(hu:bC cx u=some d)(hd:Bv d=true)
  (ho:Gw S v p.2.1 p.1 cs) (hx:Sl S x p.2.1 ds) (hf:fits (sLen v+sLen x) p.2.2=true) :
  ∃v' T,bg cx S .append (t::u::ts) [v,x]=.val v' T/\Gw T v' p.2.1 p.1 (cs++ds)/\(∀id,id<S.next->id+1≠aB v->T.h.get id=S.h.get id)/\S.next<=T.next/\sLen v'=sLen v+sLen x/\(isNil v'=(isNil v&&decide (sLen x=0))) /\
   (aB v'=aB v\/S.next<aB v')/\(sLen x≠0->capNo v'=true):=by
 have ht:=oK hx;have hlen:=hx.len;rw[rV h hu hd];obtain⟨ho1,qL⟩:=ho;cases hn:sLen x with
 |zero=>
  rw[hn]at ht hlen;have qv:ds=[]:=by rw[Nat.zero_mul]at hlen;exact List.length_eq_zero_iff.1 hlen
  subst qv;refine⟨v,S,?_,by rw[List.append_nil];exact⟨ho1,qL⟩,fun _ _ _=>rfl,Nat.le_refl _,rfl,by simp,.inl rfl,fun h=>absurd rfl h⟩;unfold fu;rcases qL with rfl|⟨id,g,off,n,lim,cap,rfl,_⟩
  .simp[ht,dN]
  .simp[ht,bF,dN]
 |succ m=>
  rw[hn]at ht hlen hf;rcases qL with rfl|⟨id,g,off,n,lim,cap,rfl,hc,cq,cells,low,top,hg,hl,htq⟩
  .have hcs:cs=[]:=by have:=ho1.rd;simp only[jR,Option.some.injEq]at this;exact this.symm
   subst hcs;have jm:Own (⟨S.h.set S.next (.row ds 0 0 false p.1),S.next+1⟩:AS) S.next (.slice S.next 0 0 (m+1) ((m+1)*p.2.1) p.2.1 none) p.2.1 p.1 ds:=
    .inr ⟨S.next,0,0,m+1,rfl,Nat.le_refl _,Nat.lt_succ_self _,aa _ _ _,Nat.le_refl _,hlen⟩
   refine⟨.slice S.next 0 0 (m+1) ((m+1)*p.2.1) p.2.1 none,⟨S.h.set S.next (.row ds 0 0 false p.1),S.next+1⟩,?_,jm.gw,fun i hi _=>ae _ _ (by omega),Nat.le_succ _,by simp[sLen],by simp[isNil],.inr (by simp[aB]),fun _=>rfl⟩;unfold fu;have EJ:fits (m+1) p.2.2=true:=by simpa[sLen]using hf
   simp only[ht,EJ,cond_true,grown];simp[dN]
  .have htop:g<=top:=Nat.le_of_eq htq;have qY:(cells.drop off).take (n*p.2.1)=cs/\cs.length=n*p.2.1:=by
    have h1:=ho1.rd;have h2:=ho1.len;simp only[sLen]at h2;refine⟨?_,h2⟩;cases n with
    |zero=>simp only[jR,Option.some.injEq]at h1;subst h1;simp
    |succ n=>
     simp only[jR,dJ,hg,bt]at h1;split at h1
     .simpa using h1
     .cases h1
   obtain⟨qY,hcn⟩:=qY;have xr:(cs++ds).length=(n+(m+1))*p.2.1:=by rw[List.length_append,hcn,hlen];exact (Nat.add_mul n (m+1) p.2.1).symm
   simp only[sLen]at hf;have e1:Nat.add n (m+1)=n+(m+1):=rfl;have e2:Nat.mul n p.2.1=n*p.2.1:=rfl;have e3:Nat.mul (n+(m+1)) p.2.1=(n+(m+1))*p.2.1:=rfl;cases cap with
   |some c=>
    simp only[Fu,decide_eq_true_eq]at hc;subst hc;have jm:Own (⟨S.h.set S.next (.row (cs++ds) 0 0 false p.1),S.next+1⟩:AS) S.next (.slice S.next 0 0 (c+(m+1)) ((c+(m+1))*p.2.1) p.2.1 none) p.2.1 p.1 (cs++ds):=
     .inr ⟨S.next,0,0,c+(m+1),rfl,Nat.le_refl _,Nat.lt_succ_self _,aa _ _ _,Nat.le_refl _,xr⟩
    refine⟨.slice S.next 0 0 (c+(m+1)) ((c+(m+1))*p.2.1) p.2.1 none,_,?_,jm.gw,fun i hi _=>ae _ _ (by omega),Nat.le_succ _,rfl,by simp[isNil],.inr (by simp[aB]),fun _=>rfl⟩;unfold fu;have e4:decide (c+(m+1)<=c)=false:=by simp
    simp only[ht,bF,decide_true,cond_true,hg,cH,hl,htop,Bool.and_self,aN,e1,hf,e2,e4,cond_false,grown,ct,ca,bz,e3,qY];rfl
   |none=>
    unfold fu;by_cases hw:(decide (off=0)&&decide (g=top)&&decide (cells.length=n*p.2.1))=true
    .simp only[Bool.and_eq_true,decide_eq_true_eq]at hw;obtain⟨⟨rfl,rfl⟩,hw⟩:=hw;have qM:cells=cs:=by rw[<-qY,List.drop_zero,<-hw,List.take_length]
     subst qM;refine⟨.slice id (g+1) 0 (n+(m+1)) ((n+(m+1))*p.2.1) p.2.1 none,⟨S.h.set id (.row (cells++ds) low (g+1) false p.1),S.next⟩,?_,?_,fun i hi cS=>ae _ _ (fun e=>cS (by simp[aB,e])),Nat.le_refl _,rfl,by simp[isNil],.inl rfl,fun _=>rfl⟩
     .simp only[ht,bF,decide_true,cond_true,hg,cH,hl,Nat.le_refl,Bool.and_self,aN,e1,hf,Bool.not_true,Bool.or_false,cond_false,bJ,hcn,e2,e3,bz];rfl
     .have jm:Own (⟨S.h.set id (.row (cells++ds) low (g+1) false p.1),S.next⟩:AS) 0 (.slice id (g+1) 0 (n+(m+1)) ((n+(m+1))*p.2.1) p.2.1 none) p.2.1 p.1 (cells++ds):=
       .inr ⟨id,g+1,low,n+(m+1),rfl,Nat.zero_le _,cq,aa _ _ _,Nat.le_succ_of_le hl,xr⟩
      exact jm.gw
    .have hw':(decide (off=0)&&decide (g=top)&&decide (cells.length=n*p.2.1))=false:=by simpa using hw
     refine⟨.slice id (top+1) 0 (n+(m+1)) ((n+(m+1))*p.2.1) p.2.1 none,⟨S.h.set id (.row (cs++ds) (top+1) (top+1) false p.1),S.next⟩,?_,?_,fun i hi cS=>ae _ _ (fun e=>cS (by simp[aB,e])),Nat.le_refl _,rfl,by simp[isNil],.inl rfl,fun _=>rfl⟩
     .simp only[ht,bF,decide_true,cond_true,hg,cH,hl,htop,Bool.and_self,aN,e1,hf,Bool.not_true,Bool.or_false,cond_false,bJ,e2,e3,bz,ct,ca,qY,hw'];rfl
     .have jm:Own (⟨S.h.set id (.row (cs++ds) (top+1) (top+1) false p.1),S.next⟩:AS) 0 (.slice id (top+1) 0 (n+(m+1)) ((n+(m+1))*p.2.1) p.2.1 none) p.2.1 p.1 (cs++ds):=
       .inr ⟨id,top+1,top+1,n+(m+1),rfl,Nat.zero_le _,cq,aa _ _ _,Nat.le_refl _,xr⟩
      exact jm.gw
theorem Gw.putc{S:AS}{v x:AV}{sz e:Nat}{cs:List AV}{i o:Nat}(h:Gw S v sz e cs)(hi:i<sLen v)(ho:o<sz):
  ∃T,AM S (oa (j5 v i) o) [x]=some T/\Gw T v sz e (cs.set (i*sz+o) x)/\(∀id,id+1≠aB v->T.h.get id=S.h.get id)/\T.next=S.next:=by
 obtain⟨h1,h2⟩:=h;rcases h2 with rfl|⟨id,g,off,n,lim,cap,rfl,hc,cq,cells,low,top,hg,hl,htq⟩
 .simp[sLen]at hi
 .subst htq;simp only[sLen]at hi;obtain⟨id',g',off',n',lim',Fv,e1,cells',low',top',frz',ty',xv,k1,k2,k3,k4⟩:=pa h1 (k:=i) hi;cases e1;rw[hg]at xv;cases xv;have hlen:=h1.len;simp only[sLen]at hlen;have hle:i*sz+sz<=n*sz:=by rw[<-Nat.succ_mul];exact Nat.mul_le_mul_right _ hi
  have qY:off+n*sz<=cells.length:=by
   have:=congrArg List.length k4;rw[List.length_take,List.length_drop,hlen]at this;by_cases h0:n*sz=0
   .omega
   .omega
  have hsp:cT (off+i*sz+o) cells [x]=cells.set (off+i*sz+o) x:=by
   rw[gm _ _ _ (by omega),List.set_eq_take_append_cons_drop,if_pos (by omega)];simp
  refine⟨⟨S.h.set id (.row (cells.set (off+i*sz+o) x) g g false e),S.next⟩,?_,⟨⟨h1.sl,?_,by rw[List.length_set];exact hlen,h1.old⟩,.inr ⟨id,g,off,n,lim,cap,rfl,hc,cq,_,g,g,aa _ _ _,Nat.le_refl _,rfl⟩⟩,fun j hj=>ae _ _ (fun e=>hj (by simp[aB,e])),rfl⟩
  .simp only[j5,oa,gh,mA,hg,gk,List.length_singleton,hsp];rw[if_pos (by refine⟨?_,by omega,?_⟩<;>trivial)]
  .obtain⟨m,rfl⟩:∃m,n=m+1:=⟨n-1,by omega⟩
   simp only[jR,dJ,aa,bt];rw[if_pos ⟨Nat.le_refl _,Nat.le_refl _,k3⟩];congr 1;rw[<-k4];apply List.ext_getElem?;intro j;rw[List.getElem?_take,List.getElem?_drop,List.getElem?_set,List.getElem?_set,List.getElem?_take,List.getElem?_drop,List.length_take,List.length_drop];by_cases hj:j<(m+1)*sz
   .rw[if_pos hj,if_pos hj];by_cases hjj:i*sz+o=j
    .rw[if_pos hjj,if_pos (by omega),if_pos (by omega),if_pos (by omega)]
    .rw[if_neg hjj,if_neg (by omega)]
   .rw[if_neg hj,if_neg hj,if_neg (by omega)]
def vg{κ:Type}[DecidableEq κ]:List (κ×AV)->κ->Option AV
 |[],_=>none
 |(a,v)::m,k=>if k=a then some v else vg m k
def pq{κ:Type}[DecidableEq κ]:List (κ×AV)->κ->AV->List (κ×AV)
 |[],k,v=>[(k,v)]
 |(a,w)::m,k,v=>if k=a then (k,v)::m else (a,w)::pq m k v
structure KeyE{κ:Type}[DecidableEq κ](d:TypeDesc)(enc:κ->AV):Prop where
 same:∀a b,mK d (enc a) (enc b)=some (decide (a=b))
 plain:∀a,plainKey d (enc a)=true
theorem keyInt(i k:IntKind):KeyE (.int i) (fun n:Int=>AV.int k n):=
 ⟨fun a b=>by
  show cond (ej k k) (some (yU a b)) none=_;rw[eA,cond_true,gK],fun _=>rfl⟩
noncomputable def El(cx:Cx)(t:TypeId):Option (TypeDesc×AV):=match bC cx t with
 |some (.map kt et)=>match bC cx kt,zeroOf cx et with
  |some d,some z=>some (d,z)
  |_,_=>none
 |_=>none
theorem w7{cx:Cx}{t:TypeId}{p:TypeDesc×AV}(h:El cx t=some p):∃kt et,bC cx t=some (.map kt et)/\bC cx kt=some p.1/\zeroOf cx et=some p.2:=by
 unfold El at h;split at h
 .rename_i kt et hu;split at h
  .rename_i d z h1 h2;cases h;exact⟨kt,et,hu,h1,h2⟩
  .cases h
 .cases h
def Mp{κ:Type}(S:AS)(x:AV)(enc:κ->AV)(m:List (κ×AV)):Prop:=
 ∃id es clock,x=.map id/\id<S.next/\S.h.get id=some (.map es clock)/\es.map (fun e=>(e.key,e.val))=m.map (fun p=>(enc p.1,p.2))
theorem xI{κ:Type}[DecidableEq κ]{d:TypeDesc}{enc:κ->AV}(hk:KeyE d enc)(k:κ)(v:AV)(clock:Nat):∀(es:List dg)(m:List (κ×AV))(i:Nat),es.map (fun e=>(e.key,e.val))=m.map (fun p=>(enc p.1,p.2)) ->
  (∃j e,fU d (enc k) es i=some (some (i+j,e))/\j<es.length/\vg m k=some e.val/\(ry j es ⟨enc k,v,e.born⟩).map (fun e=>(e.key,e.val))=(pq m k v).map (fun p=>(enc p.1,p.2))) \/
  (fU d (enc k) es i=some none/\vg m k=none/\(fH es [⟨enc k,v,clock⟩]).map (fun e=>(e.key,e.val))=(pq m k v).map (fun p=>(enc p.1,p.2)))
 |[],m,i,h=>by
  cases m with
  |nil=>exact .inr ⟨rfl,rfl,rfl⟩
  |cons p m=>simp at h
 |e::es,m,i,h=>by
  cases m with
  |nil=>simp at h
  |cons p m=>
   obtain⟨a,w⟩:=p;simp only[List.map_cons,List.cons.injEq,Prod.mk.injEq]at h;obtain⟨⟨h1,h2⟩,h3⟩:=h;have hs:fU d (enc k) (e::es) i=(match mK d (enc k) e.key with|some true=>some (some (i,e))|some false=>fU d (enc k) es (Nat.succ i)|none=>none):=rfl;rw[hs,h1,hk.same];by_cases hka:k=a
   .subst hka;refine .inl ⟨0,e,by simp,by simp,by simp[vg,h2],?_⟩;show ((⟨enc k,v,e.born⟩:dg)::es).map _=_;simp[pq,h3]
   .rcases xI hk k v clock es m (i+1) h3 with⟨j,e',g1,g2,g3,g4⟩|⟨g1,g2,g3⟩
    .refine .inl ⟨j+1,e',?_,by simp;omega,by simp[vg,hka,g3],?_⟩
     .have:(i+1+j,e')=(i+(j+1),e'):=by rw[Nat.add_assoc,Nat.add_comm 1 j]
      simp only[hka,decide_false];rw[<-this];exact g1
     .show (e::ry j es ⟨enc k,v,e'.born⟩).map _=_;simp[pq,hka,g4,h1,h2]
    .refine .inr ⟨by simp only[hka,decide_false];exact g1,by simp[vg,hka,g2],?_⟩;show (e::fH es [⟨enc k,v,clock⟩]).map _=_;simp[pq,hka,g3,h1,h2]
theorem qj{κ:Type}[DecidableEq κ]{cx:Cx}{S:AS}{t:TypeId}{p:TypeDesc×AV}{x:AV}{enc:κ->AV}{m:List (κ×AV)}{k:κ}{ok:Bool}(h:El cx t=some p)(hk:KeyE p.1 enc)(hm:Mp S x enc m):
  kN cx S t x (enc k) ok=some (match vg m k with|some v=>cond ok (.tuple [v,.bool true]) v|none=>cond ok (.tuple [p.2,.bool false]) p.2):=by
 obtain⟨kt,et,h1,h2,h3⟩:=w7 h;obtain⟨id,es,clock,rfl,h4,h5,h6⟩:=hm;unfold kN;simp only[h1,h2,h3,hk.plain,cond_true,h5];rcases xI hk k .undef 0 es m 0 h6 with⟨j,e,g1,_,g3,_⟩|⟨g1,g2,_⟩
 .rw[g1,g3]
 .rw[g1,g2]
theorem EY{F:Fr}{cx:Cx}{sz:Nat}:∀(l:List (Nat×Operand))(k:Nat)(pre z:List AV)(vs:List (List AV)),pre.length=k*sz->l.map (·.1)=List.range' k l.length->l.map (fun p=>cellsOf (eval F p.2))=vs.map some->(∀v,v∈vs->v.length=sz)->z.length=l.length*sz ->
  fe cx F (fun i=>some (Nat.mul i sz,sz)) l (pre++z)=some (pre++vs.flatten)
 |[],k,pre,z,vs,_,_,hv,_,hz=>by
  cases vs with
  |nil=>have:z=[]:=List.length_eq_zero_iff.1 (by simpa using hz);subst this;rfl
  |cons v vs=>simp at hv
 |q::l,k,pre,z,vs,hp,hi,hv,hs,hz=>by
  cases vs with
  |nil=>simp at hv
  |cons v vs=>
   simp only[List.map_cons,List.cons.injEq,List.length_cons,List.range'_succ]at hi hv hz;have hvl:v.length=sz:=hs v (by simp);have hzl:sz<=z.length:=by rw[hz,Nat.succ_mul];omega
   show (match (some (Nat.mul q.1 sz,sz):Option (Nat×Nat)),cellsOf (eval F q.2)with
    |some (off,size),some new=>cond (Nat.beq (eG new) size&&Nat.ble (Nat.add off size) (eG (pre++z))) (fe cx F (fun i=>some (Nat.mul i sz,sz)) l (Am.cT off (pre++z) new)) none
    |_,_=>none)=_
   rw[hv.1,hi.1];have e1:Nat.mul k sz=k*sz:=rfl;have e2:Nat.add (k*sz) sz=k*sz+sz:=rfl;simp only[bJ,bF,cH,hvl,e1,e2,List.length_append,hp];have h2:decide (k*sz+sz<=k*sz+z.length)=true:=by simp[hzl]
   rw[h2];simp only[decide_true,Bool.and_self,cond_true];have h3:Am.cT (k*sz) (pre++z) v=(pre++v)++z.drop sz:=by
    rw[gm _ _ _ (by simp;omega),<-hp,List.take_left,hvl,<-List.drop_drop,List.drop_left]
   rw[h3,EY l (k+1) (pre++v) (z.drop sz) vs (by simp[hp,hvl,Nat.succ_mul]) hi.2 hv.2 (fun u hu=>hs u (by simp[hu])) (by rw[List.length_drop,hz,Nat.succ_mul];omega)];simp
theorem DO{z:List AV}(n:Nat):(ke n z).length=n*z.length:=by
 induction n with
 |zero=>show ([]:List AV).length=_;simp
 |succ n ih=>
  show (fH z (ke n z)).length=_;rw[bz,List.length_append,ih,Nat.succ_mul,Nat.add_comm]
theorem ck{cx:Cx}{F:Fr}{t:TypeId}{p:Nat×Nat×Nat}{id n:Nat}{a:Array (Nat×Operand)}(vs:List (List AV))(h:oz cx t=some p)(hi:a.toList.map (·.1)=List.range n)(hx:a.toList.map (fun q=>cellsOf (eval F q.2))=vs.map some)(hl:∀v,v∈vs->v.length=p.2.1)(hn:n*p.2.1<=16777216):
  aA cx F id (.buildSlice t n a)=some (.slice id 0 0 n (n*p.2.1) p.2.1 (some n),.row vs.flatten 0 0 false p.1):=by
 obtain⟨hu,hs,hb,hz,hp⟩:=iU h;obtain⟨e,sz,bs⟩:=p;simp only at hu hs hb hz hp hl hn;obtain⟨z0,rfl⟩:∃z0,sz=z0+1:=⟨sz-1,by omega⟩
 have hal:a.toList.length=n:=by have:=congrArg List.length hi;simpa using this
 unfold j7 at hz;cases tY:zeroOf cx e with
 |none=>rw[tY]at hz;cases hz
 |some z=>
  rw[tY]at hz;cases hc:cellsOf z with
  |none=>simp[hc]at hz
  |some zl=>
   simp only[hc]at hz;simp only[bF,bJ,decide_eq_true_eq]at hz;unfold aA;simp only[hu,hs,tY,hc];have e1:Nat.succ z0=z0+1:=rfl;have e2:Nat.mul n (z0+1)=n*(z0+1):=rfl;have hb:(Nat.beq (eG zl) (Nat.succ z0)&&Nat.ble (Nat.mul n (Nat.succ z0)) 16777216)=true:=by
    simp only[bF,cH,bJ,e1,e2,hz,hn,decide_true,Bool.and_self]
   rw[hb];simp only[cond_true];have hf:fe cx F (fun i=>some (Nat.mul i (z0+1),z0+1)) a.toList (ke n zl)=some vs.flatten:=by
    have:=EY (cx:=cx) (F:=F) (sz:=z0+1) a.toList 0 [] (ke n zl) vs (by simp) (by rw[hal,hi,List.range_eq_range']) hx hl (by rw[DO,hz,hal]);simpa using this
   show (match fe cx F (fun i=>some (Nat.mul i (z0+1),z0+1)) a.toList (ke n zl)with|some cells=>some (AV.slice id 0 0 n (Nat.mul n (z0+1)) (z0+1) (some n),dr.row cells 0 0 false e)|none=>none)=_;rw[hf];rfl
structure cN(A:Nat->Prop)(S T:AS):Prop where
 h:∀id,id<S.next->¬A id->T.h.get id=S.h.get id
 next:S.next<=T.next
theorem cN.trans{A:Nat->Prop}{R S T:AS}(h:cN A R S)(k:cN A S T):cN A R T:=⟨fun id h1 h2=>(k.h id (Nat.lt_of_lt_of_le h1 h.next) h2).trans (h.h id h1 h2),Nat.le_trans h.next k.next⟩
theorem Sub.cg{A:Nat->Prop}{S T:AS}(h:Sub S T):cN A S T:=⟨fun id h1 _=>h.h id h1,h.next⟩
theorem Sl.agree{S T:AS}{v:AV}{sz:Nat}{cs:List AV}(h:Sl S v sz cs)(hs:∀id,aB v=id+1->T.h.get id=S.h.get id)(hn:S.next<=T.next):Sl T v sz cs:=by
 refine⟨h.sl,?_,h.len,Nat.le_trans h.old hn⟩;rw[<-h.rd];unfold jR;split<;>try rfl
 rename_i i g off n lim z _;cases n with
 |zero=>rfl
 |succ n=>simp only[dJ,hs i rfl]
end Go.Am
namespace Go.Am
open Go
theorem condP_mono{x:AV}{A B A' B':Prop}(h:gG x A B)(ha:A->A')(hb:B->B'):gG x A' B':=by
 unfold gG at h⊢;split at h
 .exact⟨fun e=>ha (h.1 e),fun e=>hb (h.2 e)⟩
 .exact h.elim
theorem v7{R R':Fr->AS->Prop}{Q Q':Ex->Fr->AS->Prop}(hr:∀F S,R F S->R' F S)(hq:∀e F S,Q e F S->Q' e F S):∀e F S,jo R Q e F S->jo R' Q' e F S:=fun e F S h=>by
 cases e<;>first|exact hr _ _ h|exact hq _ _ _ h
theorem FG{id:Nat}{Q Q':Ex->Fr->AS->Prop}(hq:∀e F S,Q e F S->Q' e F S):∀e F S,jh id Q e F S->jh id Q' e F S:=fun e F S h=>by
 cases e<;>first
  |exact hq _ _ _ h
  | (rename_i j
     show if j=id then Q' .normal F S else Q' (.exit j) F S
     have h':if j=id then Q .normal F S else Q (.exit j) F S:=h
     split
     .rename_i hj;rw[if_pos hj]at h';exact hq _ _ _ h'
     .rename_i hj;rw[if_neg hj]at h';exact hq _ _ _ h')
theorem DE{Q Q':Ex->Fr->AS->Prop}(hq:∀e F S,Q e F S->Q' e F S):∀e F S,oO Q e F S->oO Q' e F S:=fun e F S h=>by
 cases e<;>first|exact hq _ _ _ h|exact h.elim
theorem LoopP_mono{cx:Cx}{b:Code}{F:Fr}{S:AS}{Q Q':Ex->Fr->AS->Prop}(h:pU cx b F S Q)(hq:∀e F S,Q e F S->Q' e F S):pU cx b F S Q':=fun hc=>by
 obtain⟨n,h2⟩:=h hc;exact⟨n,h2.mono fun o ho=>⟨hq _ _ _ ho.1,ho.2⟩⟩
theorem wpP_mono{cx:Cx}:∀(c:Code){F:Fr}{S:AS}{Q Q':Ex->Fr->AS->Prop},kQ cx c F S Q->(∀e F S,Q e F S->Q' e F S)->kQ cx c F S Q':=by
 intro c
 induction c with
 |skip=>intro F S Q Q' h k;exact k _ _ _ h
 |region id ops d=>
  intro F S Q Q' h k;cases d with
  |false=>exact zM (show sD cx ops.toList ops.toList F S (Q .normal) from h) fun F S h=>k _ _ _ h
  |true=>exact E8 _ (show ko cx ops.toList F S (Q .normal) from h) fun F S h=>k _ _ _ h
 |seq a b BG uS=>
  intro F S Q Q' h k;exact BG (show kQ cx a F S (jo (fun F' S'=>kQ cx b F' S' Q) Q) from h) (v7 (fun F S h=>uS h k) k)
 |cond x a b BG uS=>
  intro F S Q Q' h k;exact condP_mono (show gG (eval F x) (kQ cx a F S Q) (kQ cx b F S Q) from h) (fun h=>BG h k) (fun h=>uS h k)
 |block id b ih=>
  intro F S Q Q' h k;exact ih (show kQ cx b F S (jh id Q) from h) (FG k)
 |loop b _=>
  intro F S Q Q' h k;exact LoopP_mono (show pU cx b F S Q from h) k
 |rangeFunc x p a b _ _=>intro F S Q Q' h k;exact (show False from h).elim
 |exit id=>intro F S Q Q' h k;exact k _ _ _ h
 |scope b ih=>
  intro F S Q Q' h k;exact ih (show kQ cx b F S (oO Q) from h) (DE k)
 |label l=>intro F S Q Q' h k;exact k _ _ _ h
 |goto l=>intro F S Q Q' h k;exact (show False from h).elim
 |ret=>intro F S Q Q' h k;exact k _ _ _ h
 |refuse w=>intro F S Q Q' h k;exact (show False from h).elim
theorem cut_of{cx:Cx}{c:Code}{F:Fr}{S:AS}{R:Fr->AS->Prop}{Q:Ex->Fr->AS->Prop}(zu:Fr->AS->Prop)(h1:kQ cx c F S (jo zu Q))(h2:∀F' S',zu F' S'->R F' S'):kQ cx c F S (jo R Q):=
 wpP_mono c h1 (v7 h2 fun _ _ _ h=>h)
end Go.Am
