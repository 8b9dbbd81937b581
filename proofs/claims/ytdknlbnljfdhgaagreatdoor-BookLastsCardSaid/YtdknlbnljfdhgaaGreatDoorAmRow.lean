/-
  The abstract machine: slices of unknown shape, as rules for simp.
-/
import Derived.Test.YtdknlbnljfdhgaaGreatDoorAmHeap
import Derived.Test.YtdknlbnljfdhgaaGreatDoorAmWin
open Bool renaming false_eq_true->zza,and_eq_true->zzb
open Option.some renaming injEq->zzc
open Nat renaming mul->zzd,le_refl->zze,mul_le_mul_right->zzf
set_option linter.unusedSimpArgs false
noncomputable section
namespace Go.Am
open Go
def eV(n:Nat):Option Nat->Bool|none=>true|some c=>decide (n<=c)
def isSl(sz:Nat):AV->Bool | .ar=>true | .slice _ _ _ n _ z c=>decide (z=sz)&&eV n c|_=>false
def sLen:AV->Nat | .slice _ _ _ n _ _ _=>n|_=>0
def isNil:AV->Bool | .ar=>true|_=>false
def aE:AV->Nat | .slice id ..=>id+1 | .ptr id ..=>id+1 | .map id=>id+1|_=>0
def nh(v:AV)(k:Nat):AV:=match v with | .slice id g off _ lim sz _=>.ptr id g (off+k*sz) lim|_=>.undef
def kR(S:AS)(v:AV):Option (List AV):=
 match v with
 | .ar=>some []
 | .slice id g off n lim sz _=>match n with|0=>some []|n+1=>rd S id g off ((n+1)*sz) lim
 |_=>none
def qh(cx:Cx)(t:TypeId):Option (Nat×Nat×Nat):=
 match bN cx t with
 |some (.slice e)=>match aG cx e,bytesOf cx e with
  |some (z+1),some bs=>cond (lC cx e (z+1)) (some (e,z+1,bs)) none
  |_,_=>none
 |_=>none
theorem jM{cx:Cx}{t:TypeId}{p:Nat×Nat×Nat}(h:qh cx t=some p):bN cx t=some (.slice p.1)/\aG cx p.1=some p.2.1/\bytesOf cx p.1=some p.2.2/\lC cx p.1 p.2.1=true/\0<p.2.1:=by
 unfold qh at h;split at h
 .rename_i e hu;split at h
  .rename_i z bs hs hb;cases hz:lC cx e (z+1)with
   |false=>rw[hz]at h;cases h
   |true=>
    rw[hz]at h;cases h;exact⟨hu,hs,hb,hz,Nat.succ_pos _⟩
  .cases h
 .cases h
def idxOf:AV->Nat | .int _ n=>n.toNat|_=>0
def inA(u:AV)(n:Nat):Bool:=match u with | .int _ m=>decide (0<=m)&&decide (m<n)|_=>false
theorem PT{k:IntKind}{n:Int}:idxOf (.int k n)=n.toNat:=rfl
theorem MT{u:AV}{n:Nat}(h:inA u n=true):∃(k:IntKind)(i:Nat),u=.int k i/\i<n:=by
 cases u<;>simp only[inA,zza,zzb,decide_eq_true_eq]at h;rename_i k m;exact⟨k,m.toNat,by rw[Int.toNat_of_nonneg h.1],by omega⟩
theorem Zb{k:IntKind}{m:Int}{n:Nat}:inA (.int k m) n=(decide (0<=m)&&decide (m<n)):=by simp[inA]
structure Sl(S:AS)(v:AV)(sz:Nat)(cs:List AV):Prop where
 sl:isSl sz v=true
 rd:kR S v=some cs
 len:cs.length=sLen v*sz
 old:aE v<=S.nx
theorem yj{S:AS}{v:AV}{id n:Nat}{o:dR}(h:aE v<=id):kR ⟨S.h.set id o,n⟩ v=kR S v:=by
 unfold kR;split<;>try rfl
 rename_i i g off n lim sz _;cases n with
 |zero=>rfl
 |succ n=>
  have ct:i≠id:=by simp only[aE]at h;omega
  simp only[dN,ae _ _ ct]
theorem Ye{S T:AS}{v:AV}{lo:Nat}(hs:∀id,id<lo->T.h.get id=S.h.get id)(h:aE v<=lo):kR T v=kR S v:=by
 unfold kR;split<;>try rfl
 rename_i i g off n lim sz _;cases n with
 |zero=>rfl
 |succ n=>
  have cQ:i<lo:=by simp only[aE]at h;omega
  simp only[dN,hs i cQ]
theorem Sl.sub{S T:AS}{v:AV}{sz:Nat}{cs:List AV}{lo:Nat}(h:Sl S v sz cs)(hs:∀id,id<lo->T.h.get id=S.h.get id)(hn:S.nx<=T.nx)(hb:aE v<=lo):Sl T v sz cs:=
 ⟨h.sl,by rw[Ye hs hb];exact h.rd,h.len,Nat.le_trans h.old hn⟩
theorem Sl.toSub{S T:AS}{v:AV}{sz:Nat}{cs:List AV}(h:Sl S v sz cs)(hs:Sub S T):Sl T v sz cs:=h.sub hs.h hs.nx h.old
theorem Sl.nil{S:AS}{sz:Nat}:Sl S .ar sz []:=⟨rfl,rfl,by simp[sLen],Nat.zero_le _⟩
theorem Sl.eR{S:AS}{v:AV}{cs:List AV}(h:Sl S v 1 cs):sLen v=cs.length:=by have:=h.len;omega
theorem Sl.isNil{S:AS}{v:AV}{sz:Nat}{cs:List AV}(h:Sl S v sz cs)(hn:isNil v=true):v=.ar/\cs=[]:=by
 cases v<;>simp only[Am.isNil,zza]at hn;have:=h.rd;exact⟨rfl,by simp only[kR,zzc]at this;exact this.symm⟩
theorem Sl.notNil{S:AS}{v:AV}{sz:Nat}{cs:List AV}(h:Sl S v sz cs)(hn:cs≠[]):Am.isNil v=false:=by
 cases hh:Am.isNil v with
 |false=>rfl
 |true=>exact absurd (h.isNil hh).2 hn
theorem Sl.cases{S:AS}{v:AV}{sz:Nat}{cs:List AV}(h:Sl S v sz cs):v=.ar\/∃id g off n lim cap,v=.slice id g off n lim sz cap:=by
 have:=h.sl;cases v<;>simp only[isSl,zza]at this
 .exact .inl rfl
 .rename_i id g off n lim z cap;simp only[zzb,decide_eq_true_eq]at this;obtain⟨this,_⟩:=this;subst this;exact .inr ⟨id,g,off,n,lim,cap,rfl⟩
section
variable{cx:Cx}{F:Fr}{S:AS}{t:TypeId}{p:Nat×Nat×Nat}{v:AV}
variable{dst:Option Tmp}{ty:TypeId}{pos:String}{af:Array Edge}{gd:Option (Nat×Bool)}
theorem jdz{ts:List TypeId}{as:List AV}(h:qh cx t=some p)(hv:isSl p.2.1 v=true):bh cx S .len (t::ts) (v::as)=.val (.int .i64 (sLen v)) S:=by
 obtain⟨hu,_⟩:=jM h;cases v<;>simp only[isSl,zza]at hv
 .exact Ul hu
 .exact PL hu
theorem Fb{x ix:Tmp}{u:AV}(hx:sl F x=v)(hi:sl F ix=u)(h:qh cx t=some p)(hv:isSl p.2.1 v=true)(hn:inA u (sLen v)=true):
  bF cx F S ⟨dst,.indexAddr t (.tmp x) (.tmp ix),ty,pos,af,gd⟩=.val (nh v (idxOf u)) S:=by
 obtain⟨hu,hs,_⟩:=jM h;obtain⟨k,i,rfl,dh⟩:=MT hn;cases v<;>simp only[isSl,zza]at hv
 .simp[sLen]at dh
 .rename_i id g off len lim z cap;simp only[zzb,decide_eq_true_eq]at hv;replace hv:=hv.1;rw[tn (i:=i) ((aI F x).trans hx) hu (by rw[hs,hv]) ((aI F ix).trans hi) rfl dh];rfl
theorem Ca{x:Tmp}{k:IntKind}{m:Int}(hx:sl F x=v)(h:qh cx t=some p)(hv:isSl p.2.1 v=true)(hn:inA (.int k m) (sLen v)=true):
  bF cx F S ⟨dst,.indexAddr t (.tmp x) (.const (.int k m)),ty,pos,af,gd⟩=.val (nh v m.toNat) S:=by
 obtain⟨hu,hs,_⟩:=jM h;obtain⟨k',i,e,dh⟩:=MT hn;cases e;cases v<;>simp only[isSl,zza]at hv
 .simp[sLen]at dh
 .rename_i id g off len lim z cap;simp only[zzb,decide_eq_true_eq]at hv;replace hv:=hv.1;rw[tn (i:=i) ((aI F x).trans hx) hu (by rw[hs,hv]) (by rw[eval_const,DR]) rfl dh];rfl
theorem qQ{S:AS}{v:AV}{sz:Nat}{cs:List AV}(h:Sl S v sz cs){k:Nat}(hk:k<sLen v):∃id g off n lim cap,v=.slice id g off n lim sz cap /\
  ∃cells low top frz e,S.h.get id=some (.row cells low top frz e)/\low<=g/\g<=top/\off+n*sz<=lim/\(cells.drop off).take (n*sz)=cs:=by
 rcases h.cases with rfl|⟨id,g,off,n,lim,cap,rfl⟩
 .simp[sLen]at hk
 .have hr:=h.rd;simp only[sLen]at hk;obtain⟨n,rfl⟩:∃m,n=m+1:=⟨n-1,by omega⟩
  simp only[kR,dN]at hr;refine⟨id,g,off,n+1,lim,cap,rfl,?_⟩;unfold Xb at hr;split at hr
  .rename_i cells low top frz e hg;split at hr
   .rename_i hc;exact⟨cells,low,top,frz,e,hg,hc.1,hc.2.1,hc.2.2,by simpa using hr⟩
   .cases hr
  .cases hr
theorem fu{e:TypeId}{cs:List AV}{k:Nat}{x:AV}(h:Sl S v 1 cs)(hk:cs[k]?=some x)(ha:aN cx e=some false):loadT cx S e (nh v k)=some x:=by
 have Hv:k<sLen v:=by rw[h.eR];exact (List.getElem?_eq_some_iff.1 hk).1
 obtain⟨id,g,off,n,lim,cap,rfl,cells,low,top,frz,e',hg,h1,h2,h3,h4⟩:=qQ h Hv;simp only[sLen]at Hv;simp only[nh,jz,ll,ha,oE,hg,bB];rw[if_pos ⟨h1,h2,by omega⟩];have:(cells.drop (off+k*1)).take 1=[x]:=by
  rw[<-h4,List.getElem?_take,if_pos (by omega),List.getElem?_drop]at hk;rw[Nat.mul_one,List.take_one,List.head?_drop,hk];rfl
 rw[this];rfl
theorem PK{e:TypeId}{cs:List AV}{k sz:Nat}(h:Sl S v sz cs)(hk:k<sLen v)(ha:aN cx e=some true)(hs:aG cx e=some sz):loadT cx S e (nh v k)=some (.agg ((cs.drop (k*sz)).take sz)):=by
 obtain⟨id,g,off,n,lim,cap,rfl,cells,low,top,frz,e',hg,h1,h2,h3,h4⟩:=qQ h hk;simp only[sLen]at hk;have hle:k*sz+sz<=n*sz:=by rw[<-Nat.succ_mul];exact zzf _ hk
 simp only[nh,jz,ll,ha,hs,se,hg,bB];rw[if_pos ⟨h1,h2,by omega⟩];simp only[Dh,zzc,AV.agg.injEq];rw[<-h4,List.drop_take,List.take_take,Nat.min_eq_left (by omega),List.drop_drop]
theorem PJ{e:TypeId}{cs:List AV}{k:Nat}{x:AV}(hr:kR S v=some cs)(hs:isSl 1 v=true)(hl:cs.length=sLen v)(hk:cs[k]?=some x)(ha:aN cx e=some false):loadT cx S e (nh v k)=some x:=by
 have h:Sl ⟨S.h,S.nx+aE v⟩ v 1 cs:=⟨hs,hr,by omega,Nat.le_add_left _ _⟩
 exact fu (S:=⟨S.h,S.nx+aE v⟩) h hk ha
theorem eq_nil{c:Bool}(h:qh cx t=some p)(hv:isSl p.2.1 v=true):aZ cx .eql t c v .ar=some (.bool (isNil v)):=by
 obtain⟨hu,_⟩:=jM h;have e:vj cx 6 t v .ar=some (isNil v):=by
  show (match bN cx t with|none=>none|some d=>jo cx (vj cx 5) t d v .ar)=_;rw[hu];cases v<;>simp only[isSl,zza]at hv<;>rfl
 cases v<;>simp only[isSl,zza]at hv<;>simp[aZ,C5,tI,e]
theorem ne_nil{c:Bool}(h:qh cx t=some p)(hv:isSl p.2.1 v=true):aZ cx .neq t c v .ar=some (.bool (!isNil v)):=by
 obtain⟨hu,_⟩:=jM h;have e:vj cx 6 t v .ar=some (isNil v):=by
  show (match bN cx t with|none=>none|some d=>jo cx (vj cx 5) t d v .ar)=_;rw[hu];cases v<;>simp only[isSl,zza]at hv<;>rfl
 cases v<;>simp only[isSl,zza]at hv<;>simp[aZ,C5,tI,e]
end
theorem C3{F:Fr}{cx:Cx}:∀(l:List (Nat×Operand))(k:Nat)(pre z:List AV)(vs:List AV),pre.length=k->l.map (·.1)=List.range' k l.length->l.map (fun p=>cellsOf (eval F p.2))=vs.map (fun v=>some [v])->z.length=l.length ->
  fO cx F (fun i=>some (zzd i 1,1)) l (pre++z)=some (pre++vs)
 |[],k,pre,z,vs,_,_,hv,hz=>by
  cases vs with
  |nil=>have:z=[]:=List.length_eq_zero_iff.1 hz;subst this;rfl
  |cons v vs=>simp at hv
 |q::l,k,pre,z,vs,hp,hi,hv,hz=>by
  cases vs with
  |nil=>simp at hv
  |cons v vs=>
   cases z with
   |nil=>simp at hz
   |cons y z=>
    simp only[List.map_cons,List.cons.injEq,List.length_cons,List.range'_succ]at hi hv hz;show (match (some (zzd q.1 1,1):Option (Nat×Nat)),cellsOf (eval F q.2)with
     |some (off,size),some new=>cond (Nat.beq (fw new) size&&Nat.ble (Nat.add off size) (fw (pre++y::z))) (fO cx F (fun i=>some (zzd i 1,1)) l (dq off (pre++y::z) new)) none
     |_,_=>none)=_
    rw[hv.1,hi.1];simp only[bX,bO,cY,List.length_cons,List.length_nil,List.length_append];have h1:zzd k 1=k:=Nat.mul_one k;rw[h1];have h2:decide (Nat.add k 1<=pre.length+(z.length+1))=true:=by
     rw[decide_eq_true_eq];show k+1<=_;omega
    rw[h2];simp only[Nat.zero_add,decide_true,Bool.and_self,cond_true];have h3:dq k (pre++y::z) [v]=(pre++[v])++z:=by
     rw[iu _ _ _ (by simp;omega)];subst hp;simp
    rw[h3,C3 l (k+1) (pre++[v]) z vs (by simp[hp]) hi.2 hv.2 (by omega)];simp
section
variable{cx:Cx}{F:Fr}{S:AS}{t:TypeId}{p:Nat×Nat×Nat}{id:Nat}
theorem K4{v:Operand}{x:AV}(h:qh cx t=some p)(h1:p.2.1=1)(hx:cellsOf (eval F v)=some [x]):aD cx F id (.buildSlice t 1 #[(0,v)])=some (.slice id 0 0 1 1 1 (some 1),.row [x] 0 0 false p.1):=by
 obtain⟨hu,hs,hb,hz,hp⟩:=jM h;obtain⟨e,sz,bs⟩:=p;simp only at h1 hu hs hb hz;subst h1;unfold lC at hz;cases wz:zeroOf cx e with
 |none=>rw[wz]at hz;cases hz
 |some z=>
  rw[wz]at hz;cases hc:cellsOf z with
  |none=>simp[hc]at hz
  |some zl=>
   simp only[hc]at hz;simp only[bO,bX,decide_eq_true_eq]at hz;obtain⟨y,rfl⟩:∃y,zl=[y]:=by
    cases zl with
    |nil=>simp at hz
    |cons y l=>cases l with
     |nil=>exact⟨y,rfl⟩
     |cons _ _=>simp at hz
   unfold aD;simp only[hu,hs,wz,hc];have hf:fO cx F (fun i=>some (zzd i 1,1)) [(0,v)] [y]=some [x]:=by
    have:=C3 (cx:=cx) (F:=F) [(0,v)] 0 [] [y] [x] rfl rfl (by simp[hx]) rfl;simpa using this
   have hr:lE 1 [y]=[y]:=rfl;have hb:(Nat.beq (fw [y]) (Nat.succ 0)&&Nat.ble (zzd 1 (Nat.succ 0)) 16777216)=true:=rfl;rw[hb];simp only[cond_true];show (match fO cx F (fun i=>some (zzd i 1,1)) [(0,v)] (lE 1 [y])with|some cells=>some (AV.slice id 0 0 1 1 1 (some 1),dR.row cells 0 0 false e)|none=>none)=_;rw[hr,hf]
theorem rA(h:qh cx t=some p):aD cx F id (.buildSlice t 0 #[])=some (.slice id 0 0 0 0 p.2.1 (some 0),.row [] 0 0 false p.1):=by
 obtain⟨hu,hs,hb,hz,hp⟩:=jM h;obtain⟨e,sz,bs⟩:=p;simp only at hu hs hb hz hp;obtain⟨z0,rfl⟩:∃z0,sz=z0+1:=⟨sz-1,by omega⟩
 unfold lC at hz;cases wz:zeroOf cx e with
 |none=>rw[wz]at hz;cases hz
 |some z=>
  rw[wz]at hz;cases hc:cellsOf z with
  |none=>simp[hc]at hz
  |some zl=>
   simp only[hc]at hz;simp only[bO,bX,decide_eq_true_eq]at hz;unfold aD;simp only[hu,hs,wz,hc];have hb:(Nat.beq (fw zl) (Nat.succ z0)&&Nat.ble (zzd 0 (Nat.succ z0)) 16777216)=true:=by
    simp[bO,cY,bX,hz]
   rw[hb];simp only[cond_true];show some (AV.slice id 0 0 0 (zzd 0 (Nat.succ z0)) (Nat.succ z0) (some 0),dR.row [] 0 0 false e)=_;rw[show zzd 0 (Nat.succ z0)=0 from Nat.zero_mul _]
end
def Own(S:AS)(lo:Nat)(v:AV)(sz e:Nat)(cs:List AV):Prop:=
 (v=.ar/\cs=[])\/∃id g low n,v=.slice id g 0 n (n*sz) sz none/\lo<=id/\id<S.nx/\S.h.get id=some (.row cs low g false e)/\low<=g/\cs.length=n*sz
theorem Own.sl{S:AS}{lo:Nat}{v:AV}{sz e:Nat}{cs:List AV}(h:Own S lo v sz e cs):Sl S v sz cs:=by
 rcases h with⟨rfl,rfl⟩|⟨id,g,low,n,rfl,h1,h2,h3,h4,h5⟩
 .exact Sl.nil
 .refine⟨by simp[isSl,eV],?_,by simp[sLen,h5],by simp[aE];omega⟩;cases n with
  |zero=>simp at h5;simp[kR,h5]
  |succ n=>
   simp only[kR,dN,h3,bB];rw[if_pos ⟨h4,zze _,by omega⟩];simp[<-h5]
structure Stay(lo:Nat)(S T:AS):Prop where
 h:∀id,id<lo->T.h.get id=S.h.get id
 nx:S.nx<=T.nx
def DV(d:TypeDesc):Bool:=match d with | .int _=>false|_=>true
theorem qF{S:AS}{x:AV}{sz:Nat}{ds:List AV}(h:Sl S x sz ds):taken S sz x=some (sLen x,ds):=by
 rcases h.cases with rfl|⟨id,g,off,n,lim,cap,rfl⟩
 .have:=h.rd;simp only[kR,zzc]at this;subst this;rfl
 .have:=h.rd;unfold taken;simp only[bO,decide_true,cond_true,sLen];cases n with
  |zero=>simp only[kR,zzc]at this;subst this;rfl
  |succ n=>
   simp only[kR]at this;have e1:zzd (n+1) sz=(n+1)*sz:=rfl;simp only[e1,this]
theorem ue{cx:Cx}{S:AS}{t u:Nat}{ts:List TypeId}{p:Nat×Nat×Nat}{v x:AV}{d:TypeDesc}(h:qh cx t=some p)(hu:bN cx u=some d)(hd:DV d=true):
  bh cx S .append (t::u::ts) [v,x]=ey (gf S p.1 p.2.1 p.2.2 v x) 4:=by
 obtain⟨ht,hs,hb,hz,hp⟩:=jM h;obtain⟨e,sz,bs⟩:=p;simp only at ht hs hb hz hp;obtain⟨z,rfl⟩:∃z,sz=z+1:=⟨sz-1,by omega⟩
 show (match bN cx t,bN cx u with
  |some (.slice e),some (.int _)=>ey (jaK cx S e v x) 3
  |some (.slice e),some _=>match aG cx e,bytesOf cx e with
   |some (Nat.succ z),some bs=>cond (lC cx e (Nat.succ z)) (ey (gf S e (Nat.succ z) bs v x) 4) (AR.err 13)
   |_,_=>AR.err 5
  |_,_=>AR.err 6)=_
 rw[ht,hu];cases d<;>first|(cases hd;done)|simp only[hs,hb,hz,cond_true]
theorem append_empty{cx:Cx}{S:AS}{t u id:Nat}{ts:List TypeId}{p:Nat×Nat×Nat}{e0:Nat}{x:AV}{ds:List AV}{d:TypeDesc}(h:qh cx t=some p)(hu:bN cx u=some d)(hd:DV d=true)
  (cD:S.h.get id=some (.row [] 0 0 false e0)) (cQ:id<S.nx) (hx:Sl S x p.2.1 ds) (hf:fits (sLen x) p.2.2=true) :
  ∃v' T,bh cx S .append (t::u::ts) [.slice id 0 0 0 0 p.2.1 (some 0),x]=.val v' T/\Sl T v' p.2.1 ds/\Sub S T/\isNil v'=false/\sLen v'=sLen x/\(sLen x≠0->Own T S.nx v' p.2.1 p.1 ds)/\(aE v'=id+1\/S.nx<aE v'):=by
 have ht:=qF hx;have hlen:=hx.len;rw[ue h hu hd];cases hn:sLen x with
 |zero=>
  rw[hn]at ht hlen;have sq:ds=[]:=by rw[Nat.zero_mul]at hlen;exact List.length_eq_zero_iff.1 hlen
  subst sq;refine⟨.slice id 0 0 0 0 p.2.1 (some 0),S,?_,⟨by simp[isSl,eV],rfl,by simp[sLen],by simp[aE];omega⟩,Sub.refl S,rfl,rfl,fun h=>absurd rfl h,.inl rfl⟩;unfold gf;simp[ht,bO,ey]
 |succ m=>
  rw[hn]at ht hlen hf;have j9:Own (⟨S.h.set S.nx (.row ds 0 0 false p.1),S.nx+1⟩:AS) S.nx (.slice S.nx 0 0 (m+1) ((m+1)*p.2.1) p.2.1 none) p.2.1 p.1 ds:=
   .inr ⟨S.nx,0,0,m+1,rfl,zze _,Nat.lt_succ_self _,aa _ _ _,zze _,hlen⟩
  refine⟨.slice S.nx 0 0 (m+1) ((m+1)*p.2.1) p.2.1 none,_,?_,j9.sl,?_,rfl,rfl,fun _=>j9,.inr (by simp[aE])⟩
  .unfold gf;have e1:Nat.add 0 (m+1)=m+1:=Nat.zero_add _;have e2:zzd 0 p.2.1=0:=Nat.zero_mul _;have e3:zzd (m+1) p.2.1=(m+1)*p.2.1:=rfl;simp only[ht,bO,decide_true,cond_true,cD,cY,zze,Bool.and_self,aQ,e1,hf,e2];have e4:decide (m+1<=0)=false:=by simp
   simp only[e4,cond_false,grown,cR,cF,bJ,e3];simp[ey]
  .exact (Sub.refl S).set _ _ (zze _) _ (Nat.le_succ _)
theorem ah.ex{cx:Cx}{f:FuncId}{as:List AV}{S:AS}{P:AV->AS->Prop}(h:ah cx f as S P):∃v T,P v T/\∀Q:AV->AS->Prop,ah cx f as S Q=Q v T:=by
 obtain⟨n,⟨v,T⟩,e,hn,hp⟩:=h;refine⟨v,T,hp,fun Q=>propext ⟨?_,fun hq=>⟨n,⟨v,T⟩,e,hn,hq⟩⟩⟩;rintro⟨m,⟨v',T'⟩,e',_,hq⟩;have h1:=iF (cx:=cx) (Nat.le_add_right n m) (.fn f) as S _ _ e;have h2:=iF (cx:=cx) (Nat.le_add_left m n) (.fn f) as S _ _ e';have h3:(az.ok (v,T) []:az (AV×AS))=.ok (v',T') []:=h1.symm.trans h2;cases h3;exact hq
theorem ah.eq{cx:Cx}{f:FuncId}{as:List AV}{S T:AS}{v:AV}(h:ah cx f as S fun v' T'=>v'=v/\T'=T){Q:AV->AS->Prop}:ah cx f as S Q=Q v T:=by
 obtain⟨v',T',⟨rfl,rfl⟩,e⟩:=h.ex;exact e Q
theorem Sl.np{S:AS}{v:AV}{sz:Nat}{cs:List AV}(h:Sl S v sz cs):bL v=false:=by rcases h.cases with rfl|⟨_,_,_,_,_,_,rfl⟩<;>rfl
theorem Sl.ok{S:AS}{v:AV}{sz:Nat}{cs:List AV}(h:Sl S v sz cs):sZ v=true:=by rcases h.cases with rfl|⟨_,_,_,_,_,_,rfl⟩<;>rfl
theorem Sl.base{S:AS}{v:AV}{sz:Nat}{cs:List AV}(h:Sl S v sz cs):kg v=true:=by rcases h.cases with rfl|⟨_,_,_,_,_,_,rfl⟩<;>rfl
theorem YD{v:AV}{k:Nat}:sZ (nh v k)=true:=by cases v<;>rfl
theorem jcZ{v:AV}(h:sZ v=true):okW v=true:=by
 cases v<;>try exact h
 rename_i fn a b;cases fn<;>simp[sZ,kg]at h
theorem lF{v:AV}(h:sZ v=true):okW v=true:=jcZ h
theorem Tj{f:FuncId}{a b:List AV}:okW (.func (.func f) a b)=(j5 a&&j5 b):=by simp[okW]
theorem Pm{a b c d e f:Nat}{g:Option Nat}:okW (.slice a b c d e f g)=true:=rfl
theorem Yx{a b c d:Nat}:okW (.ptr a b c d)=true:=rfl
theorem Yz{k:IntKind}{n:Int}:okW (.int k n)=true:=rfl
theorem Tk{b:Bool}:okW (.bool b)=true:=rfl
theorem Yw{s:List Nat}:okW (.str s)=true:=rfl
theorem Tg:okW .ar=true:=rfl
theorem Th:okW .ck=true:=rfl
theorem Yy{i:Nat}:okW (.map i)=true:=rfl
theorem Ti:okW .j8=true:=rfl
theorem Kl:okW .bR=true:=rfl
theorem YA{l:List AV}:okW (.agg l)=j5 l:=rfl
theorem Pj{l:List AV}:okW (.tuple l)=j5 l:=rfl
theorem cp{i:Nat}(h:i<9223372036854775807):IntKind.i64.wrap ((i:Int)+1)=((i+1:Nat):Int):=by
 rw[IntWalk.i64_in _ (by omega)];omega
theorem SG{S:AS}{B g n:Nat}{cap:Option Nat}{vs:List AV}{low:Nat}{frz:Bool}{e:TypeId}(h:S.h.get B=some (.row vs low g frz e))(hl:low<=g)(hn:vs.length=n)(hb:B<S.nx)(hc:eV n cap=true):Sl S (.slice B g 0 n n 1 cap) 1 vs:=by
 refine⟨by simp[isSl,hc],?_,by rw[hn];simp[sLen],hb⟩;cases n with
 |zero=>have:vs=[]:=List.length_eq_zero_iff.1 hn;subst this;rfl
 |succ n=>simp[kR,dN,h,bB,hl,<-hn]
theorem jce{S:AS}{B g n j:Nat}{cap:Option Nat}{vs:List AV}{x:AV}{low:Nat}{e:TypeId}(h:S.h.get B=some (.row vs low g false e))(hn:vs.length=n)(hj:j<n):
  xQ S (nh (.slice B g 0 n n 1 cap) j) [x]=some ⟨S.h.set B (.row (vs.set j x) g g false e),S.nx⟩:=by
 simp only[nh,eC,iT,h,dO];rw[if_pos ⟨trivial,by simp;omega,trivial⟩];rw[Nat.zero_add,Nat.mul_one,za (by omega)];congr 4;rw[List.set_eq_take_append_cons_drop,if_pos (by omega)];simp
def kX(v:AV)(l h:Nat):AV:=match v with
 | .slice id g off _ lim sz none=>.slice id g (off+l*sz) (h-l) lim sz none
 | .slice id g off _ lim sz (some c)=>EL id g off lim sz l h c
 |v=>v
theorem dx{cx:Cx}{F:Fr}{t:TypeId}{p:Nat×Nat×Nat}{v:AV}{lo hi:Option Operand}{l k:Nat}(h:qh cx t=some p)(hv:isSl p.2.1 v=true)(hl:bound F lo 0=some l)(hh:bound F hi (sLen v)=some k)(h1:l<=k)(h2:k<=sLen v):
  dT cx F t v lo hi none=some (kX v l k):=by
 obtain⟨hu,hs,_⟩:=jM h;cases v<;>simp only[isSl,zza]at hv
 .have hk:k=0:=by simpa[sLen]using h2
  subst hk;obtain rfl:l=0:=by omega
  have hb:bounds F 0 0 lo hi none=some (0,0,0):=by
   unfold bounds;have hh':bound F hi 0=some 0:=hh;rw[hl,hh'];rfl
  unfold dT;simp only[hu,hs,hb];rfl
 .rename_i id g off len lim z cap;simp only[zzb,decide_eq_true_eq]at hv;obtain⟨hz,hc⟩:=hv;subst hz;simp only[sLen]at hh h2;cases cap with
  |none=>
   have hb:bounds F len (pB len none) lo hi none=some (l,k,len):=by
    unfold bounds;rw[hl,hh];have e:bound F none (pB len none)=some len:=rfl;rw[e];simp[cY,h1,h2,pB,Bk]
   unfold dT;simp only[hu,hs,hb,bO,decide_true,cond_true,aQ];have e2:(Bk (none:Option Operand)||Bk (none:Option Nat))=false:=rfl;rw[e2];rfl
  |some c=>
   simp only[eV,decide_eq_true_eq]at hc;have hb:bounds F len (pB len (some c)) lo hi none=some (l,k,c):=by
    unfold bounds;rw[hl,hh];have e:bound F none (pB len (some c))=some c:=rfl;rw[e];have:k<=c:=by omega
    simp[cY,h1,this,pB,Bk]
   unfold dT;simp only[hu,hs,hb,bO,decide_true,cond_true];rfl
theorem kI{F:Fr}{d:Nat}:bound F none d=some d:=by simp[bound]
theorem AT{F:Fr}{o:Operand}{d:Nat}:bound F (some o) d=fH (eval F o):=by simp[bound]
theorem oC{k:IntKind}{n:Nat}:fH (.int k (n:Int))=some n:=by simp[fH]
theorem Kv{k:IntKind}:fH (.int k 0)=some 0:=by simp[fH]
theorem PA{k:IntKind}:fH (.int k 1)=some 1:=by simp[fH]
theorem Ge{S:AS}{v:AV}{sz:Nat}{cs:List AV}(h:Sl S v sz cs){l k:Nat}(h1:l<=k)(h2:k<=sLen v):sLen (kX v l k)=k-l:=by
 have BJ:=h.sl;rcases h.cases with rfl|⟨id,g,off,n,lim,cap,rfl⟩
 .simp[sLen]at h2;subst h2;simp[kX,sLen]
 .cases cap with
  |none=>simp[kX,sLen]
  |some c=>
   simp only[isSl,eV,zzb,decide_eq_true_eq]at BJ;simp only[sLen]at h2;simp only[kX,EL,bO];by_cases hc:c=l
   .simp[hc,sLen];omega
   .simp[hc,sLen,aQ]
theorem Sl.cut{S:AS}{v:AV}{sz:Nat}{cs:List AV}(h:Sl S v sz cs){l k:Nat}(h1:l<=k)(h2:k<=sLen v):Sl S (kX v l k) sz ((cs.drop (l*sz)).take ((k-l)*sz)):=by
 have hlen:=Ge h h1 h2;have ry:((cs.drop (l*sz)).take ((k-l)*sz)).length=(k-l)*sz:=by
  have h3:=h.len;have h4:l*sz+(k-l)*sz<=sLen v*sz:=by rw[<-Nat.add_mul];exact zzf _ (by omega)
  simp;omega
 by_cases h0:k-l=0
 .have rp:(cs.drop (l*sz)).take ((k-l)*sz)=[]:=by rw[h0];simp
  rw[rp];rcases h.cases with rfl|⟨id,g,off,n,lim,cap,rfl⟩
  .exact Sl.nil
  .have hold:=h.old;have BJ:=h.sl;cases cap with
   |none=>
    have e:kX (.slice id g off n lim sz none) l k=.slice id g (off+l*sz) (k-l) lim sz none:=rfl;rw[e,h0];exact⟨by simp[isSl,eV],rfl,by simp[sLen],hold⟩
   |some c=>
    simp only[kX,EL,bO];by_cases hc:c=l
    .simp only[hc,decide_true,cond_true];exact⟨by simp[isSl,eV],rfl,by simp[sLen],hold⟩
    .simp only[hc,decide_false,cond_false,aQ];have e:Nat.sub k l=0:=h0;rw[e];exact⟨by simp[isSl,eV],rfl,by simp[sLen],hold⟩
 .obtain⟨id,g,off,n,lim,cap,rfl,cells,low,top,frz,e,hg,g1,g2,g3,g4⟩:=qQ h (k:=l) (by omega);have hold:=h.old;have BJ:=h.sl;simp only[sLen]at h2;obtain⟨m,hm⟩:∃m,k-l=m+1:=⟨k-l-1,by omega⟩
  have hle:l*sz+(k-l)*sz<=n*sz:=by rw[<-Nat.add_mul];exact zzf _ (by omega)
  have key:∀Iq,kR S (.slice id g (off+l*sz) (k-l) lim sz Iq)=some ((cs.drop (l*sz)).take ((k-l)*sz)):=by
   intro Iq;rw[hm];simp only[kR,dN,hg,bB];rw[<-hm,if_pos ⟨g1,g2,by omega⟩,<-g4,List.drop_take,List.take_take,Nat.min_eq_left (by omega),List.drop_drop]
  have fin:∀Iq,eV (k-l) Iq=true->Sl S (.slice id g (off+l*sz) (k-l) lim sz Iq) sz ((cs.drop (l*sz)).take ((k-l)*sz)):=
   fun Iq hc=>⟨by simp[isSl,hc],key Iq,by rw[ry];simp[sLen],hold⟩
  cases cap with
  |none=>exact fin none rfl
  |some c=>
   simp only[isSl,eV,zzb,decide_eq_true_eq]at BJ;simp only[kX,EL,bO];have hc:c≠l:=by omega
   simp only[hc,decide_false,cond_false,aQ];exact fin (some (Nat.sub c l)) (by show eV (k-l) (some (c-l))=true;simp[eV];omega)
theorem Sx(n:Nat)(z:AV):lE n [z]=List.replicate n z:=by
 induction n with
 |zero=>rfl
 |succ n ih=>
  show gC [z] (lE n [z])=_;rw[bJ,ih];rfl
theorem HG{cx:Cx}{F:Fr}{t:TypeId}{p:Nat×Nat×Nat}{id:Nat}{l c:Operand}{z z':AV}{n:Nat}(h:qh cx t=some p)(h1:p.2.1=1)(hz:zeroOf cx p.1=some z)(hc:cellsOf z=some [z'])(hl:fH (eval F l)=some n)(hk:fH (eval F c)=some n)(hf:fits n p.2.2=true):
  aD cx F id (.makeSlice t l c)=some (.slice id 0 0 n n 1 (some n),.row (List.replicate n z') 0 0 false p.1):=by
 obtain⟨hu,hs,hb,_,_⟩:=jM h;obtain⟨e,sz,bs⟩:=p;simp only at h1 hu hs hb hz hf;subst h1;unfold aD;simp only[hu,hs,hb,hz,hc,hl,hk,hf,cY,zze,Sx];have e1:(Nat.beq (fw [z']) (Nat.succ 0)&&decide True&&true)=true:=rfl;rw[e1];simp
section
variable{cx:Cx}{F:Fr}{S:AS}{t:TypeId}
variable{dst:Option Tmp}{ty:TypeId}{pos:String}{af:Array Edge}{gd:Option (Nat×Bool)}
def SN(cx:Cx)(t:TypeId):Bool:=match bN cx t with|some (.pointer _)=>true|_=>false
theorem ym(h:SN cx t=true):∃e,bN cx t=some (.pointer e):=by
 unfold SN at h;split at h
 .rename_i e hu;exact⟨e,hu⟩
 .cases h
theorem Z7{c:Bool}{a b d e:Nat}(h:SN cx t=true):aZ cx .eql t c (.ptr a b d e) .ck=some (.bool false):=by
 obtain⟨u,hu⟩:=ym h;have e1:vj cx 6 t (.ptr a b d e) .ck=some false:=by
  show (match bN cx t with|none=>none|some d'=>jo cx (vj cx 5) t d' (.ptr a b d e) .ck)=_;rw[hu];rfl
 simp[aZ,C5,tI,e1]
theorem YW{c:Bool}{a b d e:Nat}(h:SN cx t=true):aZ cx .neq t c (.ptr a b d e) .ck=some (.bool true):=by
 obtain⟨u,hu⟩:=ym h;have e1:vj cx 6 t (.ptr a b d e) .ck=some false:=by
  show (match bN cx t with|none=>none|some d'=>jo cx (vj cx 5) t d' (.ptr a b d e) .ck)=_;rw[hu];rfl
 simp[aZ,C5,tI,e1]
theorem V0{c:Bool}(h:SN cx t=true):aZ cx .eql t c .ck .ck=some (.bool true):=by
 obtain⟨u,hu⟩:=ym h;have e1:vj cx 6 t .ck .ck=some true:=by
  show (match bN cx t with|none=>none|some d'=>jo cx (vj cx 5) t d' .ck .ck)=_;rw[hu];rfl
 simp[aZ,C5,tI,e1]
theorem T9{c:Bool}(h:SN cx t=true):aZ cx .neq t c .ck .ck=some (.bool false):=by
 obtain⟨u,hu⟩:=ym h;have e1:vj cx 6 t .ck .ck=some true:=by
  show (match bN cx t with|none=>none|some d'=>jo cx (vj cx 5) t d' .ck .ck)=_;rw[hu];rfl
 simp[aZ,C5,tI,e1]
def G6(v:AV):Option AV:=match v with | .ptr a b c d=>some (.ptr a b c d) | .func (.func f) a b=>some (.func (.func f) a b) | .map i=>some (.map i)|_=>none
theorem Pw{a b c d:Nat}:G6 (.ptr a b c d)=some (.ptr a b c d):=rfl
theorem Ks{f:FuncId}{a b:List AV}:G6 (.func (.func f) a b)=some (.func (.func f) a b):=rfl
theorem Px{i:Nat}:G6 (.map i)=some (.map i):=rfl
theorem yc{x:Tmp}{v u:AV}(hx:sl F x=v)(h:G6 v=some u):bF cx F S ⟨dst,.nilCheck (.tmp x),ty,pos,af,gd⟩=.val u S:=by
 unfold G6 at h;split at h
 .cases h;exact wY ((aI F x).trans hx)
 .cases h;exact vy ((aI F x).trans hx)
 .cases h;simp only[bF,(aI F x).trans hx]
 .cases h
end
def Y4(cx:Cx)(t:TypeId):Bool:=match bN cx t with|some (.map _ _)=>true|_=>false
theorem K5{cx:Cx}{F:Fr}{t:TypeId}{id:Nat}(h:Y4 cx t=true):aD cx F id (.makeMap t none)=some (.map id,.map [] 0):=by
 unfold Y4 at h;split at h
 .rename_i k e hu;unfold aD;simp[hu,tO]
 .cases h
def ny(cx:Cx)(s d:TypeId):Option IntKind:=match bN cx s,bN cx d with|some _,some (.int k)=>some k|_,_=>none
def intOf(v:AV):Option Int:=match v with | .int _ n=>some n|_=>none
theorem intOf_int{k:IntKind}{n:Int}:intOf (.int k n)=some n:=by simp[intOf]
theorem WO{cx:Cx}{F:Fr}{S:AS}{dst:Option Tmp}{ty:TypeId}{pos:String}{af:Array Edge}{gd:Option (Nat×Bool)}{s d:TypeId}{x:Tmp}{v:AV}{k:IntKind}{n:Int}
  (hx:sl F x=v) (h:ny cx s d=some k) (hv:intOf v=some n):bF cx F S ⟨dst,.convert s d (.tmp x),ty,pos,af,gd⟩=.val (.int k (k.wrap n)) S:=by
 unfold ny at h;split at h
 .rename_i e k' h1 h2;cases h;cases v<;>simp[intOf]at hv;subst hv;exact Ff h1 h2 ((aI F x).trans hx)
 .cases h
theorem H7{cx:Cx}{ops:List Oper}{F:Fr}{S:AS}{Q:Fr->AS->Prop}(P:Fr->AS->Prop)(h:lL cx ops F S P)(k:∀G T,P G T->Q G T):lL cx ops F S Q:=by
 have h1:=h.run;refine⟨?_⟩;unfold vl at h1⊢;cases hp:GV cx ops with
 |none=>rw[hp]at h1;exact h1
 |some rows=>
  rw[hp]at h1;exact fD h1 fun G T sn hh=>⟨hh.1,k _ _ hh.2⟩
structure jmL(lo:Nat)(S T:AS):Prop where
 h:∀id,lo<=id->id<S.nx->T.h.get id=S.h.get id
 nx:S.nx<=T.nx
theorem PR{z:Nat}:isSl z .ar=true:=by simp[isSl,eV]
theorem KK{z a b c d e f:Nat}{g:Option Nat}:isSl z (.slice a b c d e f g)=(decide (f=z)&&eV d g):=by simp[isSl,eV]
theorem QE{n:Nat}:eV n none=true:=by simp[eV]
theorem QD{n c:Nat}:eV n (some c)=decide (n<=c):=by simp[eV]
theorem KL:isNil .ar=true:=rfl
theorem Hj{a b c d e f:Nat}{g:Option Nat}:isNil (.slice a b c d e f g)=false:=rfl
theorem OQ:sLen .ar=0:=rfl
theorem jb{a b c d e f:Nat}{g:Option Nat}:sLen (.slice a b c d e f g)=d:=rfl
theorem EU:cellsOf .eQ=some [.eQ]:=rfl
theorem ET:cellsOf .j8=some [.j8]:=rfl
theorem Il{i:Nat}:cellsOf (.map i)=some [.map i]:=rfl
theorem EV{f:Fn}{a b:List AV}:cellsOf (.func f a b)=some [.func f a b]:=rfl
theorem Sl.cells{S:AS}{v:AV}{sz:Nat}{cs:List AV}(h:Sl S v sz cs):cellsOf v=some [v]:=by rcases h.cases with rfl|⟨_,_,_,_,_,_,rfl⟩<;>rfl
attribute [simp] K5 intOf_int WO dx kI AT oC Kv PA HG QE QD EU ET Il EV YD PR KK KL Hj OQ jb OT X7 X6 X8 X9 Oi Oh Oj Ol JE Ow JD Gh JK Oz JJ Gn Qf RN Q7 SF Yd SE O5
 Tr Tt Ts KB KC V8 Qv vp GO GP J0 GN tT Lo tc Lp wg lF Pm Yx Yz Tk Yw Tg Th Yy Ti Kl YA Pj Tj kg j5
 jdz Fb Ca PT Zb Z7 YW V0 T9 Pw Ks Px yc eq_nil ne_nil K4 rA
end Go.Am
end
