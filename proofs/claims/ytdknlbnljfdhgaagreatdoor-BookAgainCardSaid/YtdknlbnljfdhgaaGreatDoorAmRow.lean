/-
  The abstract machine: slices of unknown shape, as rules for simp.
-/
import Derived.Test.YtdknlbnljfdhgaaGreatDoorAmHeap
import Derived.Test.YtdknlbnljfdhgaaGreatDoorAmWin
noncomputable section
namespace Go.Am
open Go
set_option linter.unusedSimpArgs false
def eu(n:Nat):Option Nat->Bool|none=>true|some c=>decide (n<=c)
def isSl(sz:Nat):AV->Bool | .aq=>true | .slice _ _ _ n _ z c=>decide (z=sz)&&eu n c|_=>false
def sLen:AV->Nat | .slice _ _ _ n _ _ _=>n|_=>0
def isNil:AV->Bool | .aq=>true|_=>false
def aB:AV->Nat | .slice id ..=>id+1 | .ptr id ..=>id+1 | .map id=>id+1|_=>0
def j5(v:AV)(k:Nat):AV:=match v with | .slice id g off _ lim sz _=>.ptr id g (off+k*sz) lim|_=>.undef
def jR(S:AS)(v:AV):Option (List AV):=
 match v with
 | .aq=>some []
 | .slice id g off n lim sz _=>match n with|0=>some []|n+1=>rd S id g off ((n+1)*sz) lim
 |_=>none
def oz(cx:Cx)(t:TypeId):Option (Nat×Nat×Nat):=
 match bC cx t with
 |some (.slice e)=>match aE cx e,bytesOf cx e with
  |some (z+1),some bs=>cond (j7 cx e (z+1)) (some (e,z+1,bs)) none
  |_,_=>none
 |_=>none
theorem iU{cx:Cx}{t:TypeId}{p:Nat×Nat×Nat}(h:oz cx t=some p):bC cx t=some (.slice p.1)/\aE cx p.1=some p.2.1/\bytesOf cx p.1=some p.2.2/\j7 cx p.1 p.2.1=true/\0<p.2.1:=by
 unfold oz at h;split at h
 .rename_i e hu;split at h
  .rename_i z bs hs hb;cases hz:j7 cx e (z+1)with
   |false=>rw[hz]at h;cases h
   |true=>
    rw[hz]at h;cases h;exact⟨hu,hs,hb,hz,Nat.succ_pos _⟩
  .cases h
 .cases h
def idxOf:AV->Nat | .int _ n=>n.toNat|_=>0
def inA(u:AV)(n:Nat):Bool:=match u with | .int _ m=>decide (0<=m)&&decide (m<n)|_=>false
theorem idxOf_int{k:IntKind}{n:Int}:idxOf (.int k n)=n.toNat:=rfl
theorem inA_nat{u:AV}{n:Nat}(h:inA u n=true):∃(k:IntKind)(i:Nat),u=.int k i/\i<n:=by
 cases u<;>simp only[inA,Bool.false_eq_true,Bool.and_eq_true,decide_eq_true_eq]at h;rename_i k m;exact⟨k,m.toNat,by rw[Int.toNat_of_nonneg h.1],by omega⟩
theorem inA_int{k:IntKind}{m:Int}{n:Nat}:inA (.int k m) n=(decide (0<=m)&&decide (m<n)):=by simp[inA]
structure Sl(S:AS)(v:AV)(sz:Nat)(cs:List AV):Prop where
 sl:isSl sz v=true
 rd:jR S v=some cs
 len:cs.length=sLen v*sz
 old:aB v<=S.next
theorem vz{S:AS}{v:AV}{id n:Nat}{o:dr}(h:aB v<=id):jR ⟨S.h.set id o,n⟩ v=jR S v:=by
 unfold jR;split<;>try rfl
 rename_i i g off n lim sz _;cases n with
 |zero=>rfl
 |succ n=>
  have cS:i≠id:=by simp only[aB]at h;omega
  simp only[dJ,ae _ _ cS]
theorem rdS_sub{S T:AS}{v:AV}{lo:Nat}(hs:∀id,id<lo->T.h.get id=S.h.get id)(h:aB v<=lo):jR T v=jR S v:=by
 unfold jR;split<;>try rfl
 rename_i i g off n lim sz _;cases n with
 |zero=>rfl
 |succ n=>
  have cq:i<lo:=by simp only[aB]at h;omega
  simp only[dJ,hs i cq]
theorem Sl.sub{S T:AS}{v:AV}{sz:Nat}{cs:List AV}{lo:Nat}(h:Sl S v sz cs)(hs:∀id,id<lo->T.h.get id=S.h.get id)(hn:S.next<=T.next)(hb:aB v<=lo):Sl T v sz cs:=
 ⟨h.sl,by rw[rdS_sub hs hb];exact h.rd,h.len,Nat.le_trans h.old hn⟩
theorem Sl.toSub{S T:AS}{v:AV}{sz:Nat}{cs:List AV}(h:Sl S v sz cs)(hs:Sub S T):Sl T v sz cs:=h.sub hs.h hs.next h.old
theorem Sl.nil{S:AS}{sz:Nat}:Sl S .aq sz []:=⟨rfl,rfl,by simp[sLen],Nat.zero_le _⟩
theorem Sl.fC{S:AS}{v:AV}{cs:List AV}(h:Sl S v 1 cs):sLen v=cs.length:=by have:=h.len;omega
theorem Sl.isNil{S:AS}{v:AV}{sz:Nat}{cs:List AV}(h:Sl S v sz cs)(hn:isNil v=true):v=.aq/\cs=[]:=by
 cases v<;>simp only[Am.isNil,Bool.false_eq_true]at hn;have:=h.rd;exact⟨rfl,by simp only[jR,Option.some.injEq]at this;exact this.symm⟩
theorem Sl.notNil{S:AS}{v:AV}{sz:Nat}{cs:List AV}(h:Sl S v sz cs)(hn:cs≠[]):Am.isNil v=false:=by
 cases hh:Am.isNil v with
 |false=>rfl
 |true=>exact absurd (h.isNil hh).2 hn
theorem Sl.cases{S:AS}{v:AV}{sz:Nat}{cs:List AV}(h:Sl S v sz cs):v=.aq\/∃id g off n lim cap,v=.slice id g off n lim sz cap:=by
 have:=h.sl;cases v<;>simp only[isSl,Bool.false_eq_true]at this
 .exact .inl rfl
 .rename_i id g off n lim z cap;simp only[Bool.and_eq_true,decide_eq_true_eq]at this;obtain⟨this,_⟩:=this;subst this;exact .inr ⟨id,g,off,n,lim,cap,rfl⟩
section
variable{cx:Cx}{F:Fr}{S:AS}{t:TypeId}{p:Nat×Nat×Nat}{v:AV}
variable{dst:Option Tmp}{ty:TypeId}{pos:String}{af:Array Edge}{gd:Option (Nat×Bool)}
theorem len_sl{ts:List TypeId}{as:List AV}(h:oz cx t=some p)(hv:isSl p.2.1 v=true):bg cx S .len (t::ts) (v::as)=.val (.int .i64 (sLen v)) S:=by
 obtain⟨hu,_⟩:=iU h;cases v<;>simp only[isSl,Bool.false_eq_true]at hv
 .exact len_nils hu
 .exact len_slice hu
theorem Cw{x ix:Tmp}{u:AV}(hx:sl F x=v)(hi:sl F ix=u)(h:oz cx t=some p)(hv:isSl p.2.1 v=true)(hn:inA u (sLen v)=true):
  bj cx F S ⟨dst,.indexAddr t (.tmp x) (.tmp ix),ty,pos,af,gd⟩=.val (j5 v (idxOf u)) S:=by
 obtain⟨hu,hs,_⟩:=iU h;obtain⟨k,i,rfl,cQ⟩:=inA_nat hn;cases v<;>simp only[isSl,Bool.false_eq_true]at hv
 .simp[sLen]at cQ
 .rename_i id g off len lim z cap;simp only[Bool.and_eq_true,decide_eq_true_eq]at hv;replace hv:=hv.1;rw[ri (i:=i) ((aJ F x).trans hx) hu (by rw[hs,hv]) ((aJ F ix).trans hi) rfl cQ];rfl
theorem zn{x:Tmp}{k:IntKind}{m:Int}(hx:sl F x=v)(h:oz cx t=some p)(hv:isSl p.2.1 v=true)(hn:inA (.int k m) (sLen v)=true):
  bj cx F S ⟨dst,.indexAddr t (.tmp x) (.const (.int k m)),ty,pos,af,gd⟩=.val (j5 v m.toNat) S:=by
 obtain⟨hu,hs,_⟩:=iU h;obtain⟨k',i,e,cQ⟩:=inA_nat hn;cases e;cases v<;>simp only[isSl,Bool.false_eq_true]at hv
 .simp[sLen]at cQ
 .rename_i id g off len lim z cap;simp only[Bool.and_eq_true,decide_eq_true_eq]at hv;replace hv:=hv.1;rw[ri (i:=i) ((aJ F x).trans hx) hu (by rw[hs,hv]) (by rw[eval_const,Bs]) rfl cQ];rfl
theorem pa{S:AS}{v:AV}{sz:Nat}{cs:List AV}(h:Sl S v sz cs){k:Nat}(hk:k<sLen v):∃id g off n lim cap,v=.slice id g off n lim sz cap /\
  ∃cells low top frz e,S.h.get id=some (.row cells low top frz e)/\low<=g/\g<=top/\off+n*sz<=lim/\(cells.drop off).take (n*sz)=cs:=by
 rcases h.cases with rfl|⟨id,g,off,n,lim,cap,rfl⟩
 .simp[sLen]at hk
 .have hr:=h.rd;simp only[sLen]at hk;obtain⟨n,rfl⟩:∃m,n=m+1:=⟨n-1,by omega⟩
  simp only[jR,dJ]at hr;refine⟨id,g,off,n+1,lim,cap,rfl,?_⟩;unfold rdO at hr;split at hr
  .rename_i cells low top frz e hg;split at hr
   .rename_i hc;exact⟨cells,low,top,frz,e,hg,hc.1,hc.2.1,hc.2.2,by simpa using hr⟩
   .cases hr
  .cases hr
theorem fQ{e:TypeId}{cs:List AV}{k:Nat}{x:AV}(h:Sl S v 1 cs)(hk:cs[k]?=some x)(ha:aG cx e=some false):loadT cx S e (j5 v k)=some x:=by
 have vk:k<sLen v:=by rw[h.fC];exact (List.getElem?_eq_some_iff.1 hk).1
 obtain⟨id,g,off,n,lim,cap,rfl,cells,low,top,frz,e',hg,h1,h2,h3,h4⟩:=pa h vk;simp only[sLen]at vk;simp only[j5,gy,iW,ha,kT,hg,bt];rw[if_pos ⟨h1,h2,by omega⟩];have:(cells.drop (off+k*1)).take 1=[x]:=by
  rw[<-h4,List.getElem?_take,if_pos (by omega),List.getElem?_drop]at hk;rw[Nat.mul_one,List.take_one,List.head?_drop,hk];rfl
 rw[this];rfl
theorem loadT_agg{e:TypeId}{cs:List AV}{k sz:Nat}(h:Sl S v sz cs)(hk:k<sLen v)(ha:aG cx e=some true)(hs:aE cx e=some sz):loadT cx S e (j5 v k)=some (.agg ((cs.drop (k*sz)).take sz)):=by
 obtain⟨id,g,off,n,lim,cap,rfl,cells,low,top,frz,e',hg,h1,h2,h3,h4⟩:=pa h hk;simp only[sLen]at hk;have hle:k*sz+sz<=n*sz:=by rw[<-Nat.succ_mul];exact Nat.mul_le_mul_right _ hk
 simp only[j5,gy,iW,ha,hs,qk,hg,bt];rw[if_pos ⟨h1,h2,by omega⟩];simp only[AF,Option.some.injEq,AV.agg.injEq];rw[<-h4,List.drop_take,List.take_take,Nat.min_eq_left (by omega),List.drop_drop]
theorem loadT_one{e:TypeId}{cs:List AV}{k:Nat}{x:AV}(hr:jR S v=some cs)(hs:isSl 1 v=true)(hl:cs.length=sLen v)(hk:cs[k]?=some x)(ha:aG cx e=some false):loadT cx S e (j5 v k)=some x:=by
 have h:Sl ⟨S.h,S.next+aB v⟩ v 1 cs:=⟨hs,hr,by omega,Nat.le_add_left _ _⟩
 exact fQ (S:=⟨S.h,S.next+aB v⟩) h hk ha
theorem eq_nil{c:Bool}(h:oz cx t=some p)(hv:isSl p.2.1 v=true):aS cx .eql t c v .aq=some (.bool (isNil v)):=by
 obtain⟨hu,_⟩:=iU h;have e:sW cx 6 t v .aq=some (isNil v):=by
  show (match bC cx t with|none=>none|some d=>iD cx (sW cx 5) t d v .aq)=_;rw[hu];cases v<;>simp only[isSl,Bool.false_eq_true]at hv<;>rfl
 cases v<;>simp only[isSl,Bool.false_eq_true]at hv<;>simp[aS,Aq,rC,e]
theorem ne_nil{c:Bool}(h:oz cx t=some p)(hv:isSl p.2.1 v=true):aS cx .neq t c v .aq=some (.bool (!isNil v)):=by
 obtain⟨hu,_⟩:=iU h;have e:sW cx 6 t v .aq=some (isNil v):=by
  show (match bC cx t with|none=>none|some d=>iD cx (sW cx 5) t d v .aq)=_;rw[hu];cases v<;>simp only[isSl,Bool.false_eq_true]at hv<;>rfl
 cases v<;>simp only[isSl,Bool.false_eq_true]at hv<;>simp[aS,Aq,rC,e]
end
theorem Ao{F:Fr}{cx:Cx}:∀(l:List (Nat×Operand))(k:Nat)(pre z:List AV)(vs:List AV),pre.length=k->l.map (·.1)=List.range' k l.length->l.map (fun p=>cellsOf (eval F p.2))=vs.map (fun v=>some [v])->z.length=l.length ->
  fe cx F (fun i=>some (Nat.mul i 1,1)) l (pre++z)=some (pre++vs)
 |[],k,pre,z,vs,_,_,hv,hz=>by
  cases vs with
  |nil=>have:z=[]:=List.length_eq_zero_iff.1 hz;subst this;rfl
  |cons v vs=>simp at hv
 |q::l,k,pre,z,vs,hp,hi,hv,hz=>by
  cases vs with
  |nil=>simp at hv
  |cons v vs=>
   cases z with
   |nil=>simp at hz
   |cons y z=>
    simp only[List.map_cons,List.cons.injEq,List.length_cons,List.range'_succ]at hi hv hz;show (match (some (Nat.mul q.1 1,1):Option (Nat×Nat)),cellsOf (eval F q.2)with
     |some (off,size),some new=>cond (Nat.beq (eG new) size&&Nat.ble (Nat.add off size) (eG (pre++y::z))) (fe cx F (fun i=>some (Nat.mul i 1,1)) l (cT off (pre++y::z) new)) none
     |_,_=>none)=_
    rw[hv.1,hi.1];simp only[bJ,bF,cH,List.length_cons,List.length_nil,List.length_append];have h1:Nat.mul k 1=k:=Nat.mul_one k;rw[h1];have h2:decide (Nat.add k 1<=pre.length+(z.length+1))=true:=by
     rw[decide_eq_true_eq];show k+1<=_;omega
    rw[h2];simp only[Nat.zero_add,decide_true,Bool.and_self,cond_true];have h3:cT k (pre++y::z) [v]=(pre++[v])++z:=by
     rw[gm _ _ _ (by simp;omega)];subst hp;simp
    rw[h3,Ao l (k+1) (pre++[v]) z vs (by simp[hp]) hi.2 hv.2 (by omega)];simp
section
variable{cx:Cx}{F:Fr}{S:AS}{t:TypeId}{p:Nat×Nat×Nat}{id:Nat}
theorem freshV_one{v:Operand}{x:AV}(h:oz cx t=some p)(h1:p.2.1=1)(hx:cellsOf (eval F v)=some [x]):aA cx F id (.buildSlice t 1 #[(0,v)])=some (.slice id 0 0 1 1 1 (some 1),.row [x] 0 0 false p.1):=by
 obtain⟨hu,hs,hb,hz,hp⟩:=iU h;obtain⟨e,sz,bs⟩:=p;simp only at h1 hu hs hb hz;subst h1;unfold j7 at hz;cases tY:zeroOf cx e with
 |none=>rw[tY]at hz;cases hz
 |some z=>
  rw[tY]at hz;cases hc:cellsOf z with
  |none=>simp[hc]at hz
  |some zl=>
   simp only[hc]at hz;simp only[bF,bJ,decide_eq_true_eq]at hz;obtain⟨y,rfl⟩:∃y,zl=[y]:=by
    cases zl with
    |nil=>simp at hz
    |cons y l=>cases l with
     |nil=>exact⟨y,rfl⟩
     |cons _ _=>simp at hz
   unfold aA;simp only[hu,hs,tY,hc];have hf:fe cx F (fun i=>some (Nat.mul i 1,1)) [(0,v)] [y]=some [x]:=by
    have:=Ao (cx:=cx) (F:=F) [(0,v)] 0 [] [y] [x] rfl rfl (by simp[hx]) rfl;simpa using this
   have hr:ke 1 [y]=[y]:=rfl;have hb:(Nat.beq (eG [y]) (Nat.succ 0)&&Nat.ble (Nat.mul 1 (Nat.succ 0)) 16777216)=true:=rfl;rw[hb];simp only[cond_true];show (match fe cx F (fun i=>some (Nat.mul i 1,1)) [(0,v)] (ke 1 [y])with|some cells=>some (AV.slice id 0 0 1 1 1 (some 1),dr.row cells 0 0 false e)|none=>none)=_;rw[hr,hf]
theorem pH(h:oz cx t=some p):aA cx F id (.buildSlice t 0 #[])=some (.slice id 0 0 0 0 p.2.1 (some 0),.row [] 0 0 false p.1):=by
 obtain⟨hu,hs,hb,hz,hp⟩:=iU h;obtain⟨e,sz,bs⟩:=p;simp only at hu hs hb hz hp;obtain⟨z0,rfl⟩:∃z0,sz=z0+1:=⟨sz-1,by omega⟩
 unfold j7 at hz;cases tY:zeroOf cx e with
 |none=>rw[tY]at hz;cases hz
 |some z=>
  rw[tY]at hz;cases hc:cellsOf z with
  |none=>simp[hc]at hz
  |some zl=>
   simp only[hc]at hz;simp only[bF,bJ,decide_eq_true_eq]at hz;unfold aA;simp only[hu,hs,tY,hc];have hb:(Nat.beq (eG zl) (Nat.succ z0)&&Nat.ble (Nat.mul 0 (Nat.succ z0)) 16777216)=true:=by
    simp[bF,cH,bJ,hz]
   rw[hb];simp only[cond_true];show some (AV.slice id 0 0 0 (Nat.mul 0 (Nat.succ z0)) (Nat.succ z0) (some 0),dr.row [] 0 0 false e)=_;rw[show Nat.mul 0 (Nat.succ z0)=0 from Nat.zero_mul _]
end
def Own(S:AS)(lo:Nat)(v:AV)(sz e:Nat)(cs:List AV):Prop:=
 (v=.aq/\cs=[])\/∃id g low n,v=.slice id g 0 n (n*sz) sz none/\lo<=id/\id<S.next/\S.h.get id=some (.row cs low g false e)/\low<=g/\cs.length=n*sz
theorem Own.sl{S:AS}{lo:Nat}{v:AV}{sz e:Nat}{cs:List AV}(h:Own S lo v sz e cs):Sl S v sz cs:=by
 rcases h with⟨rfl,rfl⟩|⟨id,g,low,n,rfl,h1,h2,h3,h4,h5⟩
 .exact Sl.nil
 .refine⟨by simp[isSl,eu],?_,by simp[sLen,h5],by simp[aB];omega⟩;cases n with
  |zero=>simp at h5;simp[jR,h5]
  |succ n=>
   simp only[jR,dJ,h3,bt];rw[if_pos ⟨h4,Nat.le_refl _,by omega⟩];simp[<-h5]
structure Stay(lo:Nat)(S T:AS):Prop where
 h:∀id,id<lo->T.h.get id=S.h.get id
 next:S.next<=T.next
def Bv(d:TypeDesc):Bool:=match d with | .int _=>false|_=>true
theorem oK{S:AS}{x:AV}{sz:Nat}{ds:List AV}(h:Sl S x sz ds):taken S sz x=some (sLen x,ds):=by
 rcases h.cases with rfl|⟨id,g,off,n,lim,cap,rfl⟩
 .have:=h.rd;simp only[jR,Option.some.injEq]at this;subst this;rfl
 .have:=h.rd;unfold taken;simp only[bF,decide_true,cond_true,sLen];cases n with
  |zero=>simp only[jR,Option.some.injEq]at this;subst this;rfl
  |succ n=>
   simp only[jR]at this;have e1:Nat.mul (n+1) sz=(n+1)*sz:=rfl;simp only[e1,this]
theorem rV{cx:Cx}{S:AS}{t u:Nat}{ts:List TypeId}{p:Nat×Nat×Nat}{v x:AV}{d:TypeDesc}(h:oz cx t=some p)(hu:bC cx u=some d)(hd:Bv d=true):
  bg cx S .append (t::u::ts) [v,x]=dN (fu S p.1 p.2.1 p.2.2 v x) 4:=by
 obtain⟨ht,hs,hb,hz,hp⟩:=iU h;obtain⟨e,sz,bs⟩:=p;simp only at ht hs hb hz hp;obtain⟨z,rfl⟩:∃z,sz=z+1:=⟨sz-1,by omega⟩
 show (match bC cx t,bC cx u with
  |some (.slice e),some (.int _)=>dN (appZ cx S e v x) 3
  |some (.slice e),some _=>match aE cx e,bytesOf cx e with
   |some (Nat.succ z),some bs=>cond (j7 cx e (Nat.succ z)) (dN (fu S e (Nat.succ z) bs v x) 4) (AR.err 13)
   |_,_=>AR.err 5
  |_,_=>AR.err 6)=_
 rw[ht,hu];cases d<;>first|(cases hd;done)|simp only[hs,hb,hz,cond_true]
theorem append_empty{cx:Cx}{S:AS}{t u id:Nat}{ts:List TypeId}{p:Nat×Nat×Nat}{e0:Nat}{x:AV}{ds:List AV}{d:TypeDesc}(h:oz cx t=some p)(hu:bC cx u=some d)(hd:Bv d=true)
  (bY:S.h.get id=some (.row [] 0 0 false e0)) (cq:id<S.next) (hx:Sl S x p.2.1 ds) (hf:fits (sLen x) p.2.2=true) :
  ∃v' T,bg cx S .append (t::u::ts) [.slice id 0 0 0 0 p.2.1 (some 0),x]=.val v' T/\Sl T v' p.2.1 ds/\Sub S T/\isNil v'=false/\sLen v'=sLen x/\(sLen x≠0->Own T S.next v' p.2.1 p.1 ds)/\(aB v'=id+1\/S.next<aB v'):=by
 have ht:=oK hx;have hlen:=hx.len;rw[rV h hu hd];cases hn:sLen x with
 |zero=>
  rw[hn]at ht hlen;have qv:ds=[]:=by rw[Nat.zero_mul]at hlen;exact List.length_eq_zero_iff.1 hlen
  subst qv;refine⟨.slice id 0 0 0 0 p.2.1 (some 0),S,?_,⟨by simp[isSl,eu],rfl,by simp[sLen],by simp[aB];omega⟩,Sub.refl S,rfl,rfl,fun h=>absurd rfl h,.inl rfl⟩;unfold fu;simp[ht,bF,dN]
 |succ m=>
  rw[hn]at ht hlen hf;have jm:Own (⟨S.h.set S.next (.row ds 0 0 false p.1),S.next+1⟩:AS) S.next (.slice S.next 0 0 (m+1) ((m+1)*p.2.1) p.2.1 none) p.2.1 p.1 ds:=
   .inr ⟨S.next,0,0,m+1,rfl,Nat.le_refl _,Nat.lt_succ_self _,aa _ _ _,Nat.le_refl _,hlen⟩
  refine⟨.slice S.next 0 0 (m+1) ((m+1)*p.2.1) p.2.1 none,_,?_,jm.sl,?_,rfl,rfl,fun _=>jm,.inr (by simp[aB])⟩
  .unfold fu;have e1:Nat.add 0 (m+1)=m+1:=Nat.zero_add _;have e2:Nat.mul 0 p.2.1=0:=Nat.zero_mul _;have e3:Nat.mul (m+1) p.2.1=(m+1)*p.2.1:=rfl;simp only[ht,bF,decide_true,cond_true,bY,cH,Nat.le_refl,Bool.and_self,aN,e1,hf,e2];have e4:decide (m+1<=0)=false:=by simp
   simp only[e4,cond_false,grown,ct,ca,bz,e3];simp[dN]
  .exact (Sub.refl S).set _ _ (Nat.le_refl _) _ (Nat.le_succ _)
theorem ai.ex{cx:Cx}{f:FuncId}{as:List AV}{S:AS}{P:AV->AS->Prop}(h:ai cx f as S P):∃v T,P v T/\∀Q:AV->AS->Prop,ai cx f as S Q=Q v T:=by
 obtain⟨n,⟨v,T⟩,e,hn,hp⟩:=h;refine⟨v,T,hp,fun Q=>propext ⟨?_,fun hq=>⟨n,⟨v,T⟩,e,hn,hq⟩⟩⟩;rintro⟨m,⟨v',T'⟩,e',_,hq⟩;have h1:=gC (cx:=cx) (Nat.le_add_right n m) (.fn f) as S _ _ e;have h2:=gC (cx:=cx) (Nat.le_add_left m n) (.fn f) as S _ _ e';have h3:(av.ok (v,T) []:av (AV×AS))=.ok (v',T') []:=h1.symm.trans h2;cases h3;exact hq
theorem ai.eq{cx:Cx}{f:FuncId}{as:List AV}{S T:AS}{v:AV}(h:ai cx f as S fun v' T'=>v'=v/\T'=T){Q:AV->AS->Prop}:ai cx f as S Q=Q v T:=by
 obtain⟨v',T',⟨rfl,rfl⟩,e⟩:=h.ex;exact e Q
theorem Sl.np{S:AS}{v:AV}{sz:Nat}{cs:List AV}(h:Sl S v sz cs):bE v=false:=by rcases h.cases with rfl|⟨_,_,_,_,_,_,rfl⟩<;>rfl
theorem Sl.ok{S:AS}{v:AV}{sz:Nat}{cs:List AV}(h:Sl S v sz cs):qR v=true:=by rcases h.cases with rfl|⟨_,_,_,_,_,_,rfl⟩<;>rfl
theorem Sl.base{S:AS}{v:AV}{sz:Nat}{cs:List AV}(h:Sl S v sz cs):jr v=true:=by rcases h.cases with rfl|⟨_,_,_,_,_,_,rfl⟩<;>rfl
theorem okV_pAt{v:AV}{k:Nat}:qR (j5 v k)=true:=by cases v<;>rfl
theorem okW_ok{v:AV}(h:qR v=true):okW v=true:=by
 cases v<;>try exact h
 rename_i fn a b;cases fn<;>simp[qR,jr]at h
theorem lr{v:AV}(h:qR v=true):okW v=true:=okW_ok h
theorem okW_func{f:FuncId}{a b:List AV}:okW (.func (.func f) a b)=(jj a&&jj b):=by simp[okW]
theorem okW_slice{a b c d e f:Nat}{g:Option Nat}:okW (.slice a b c d e f g)=true:=rfl
theorem okW_ptr{a b c d:Nat}:okW (.ptr a b c d)=true:=rfl
theorem okW_int{k:IntKind}{n:Int}:okW (.int k n)=true:=rfl
theorem okW_bool{b:Bool}:okW (.bool b)=true:=rfl
theorem okW_str{s:List Nat}:okW (.str s)=true:=rfl
theorem okW_nils:okW .aq=true:=rfl
theorem okW_nilp:okW .bM=true:=rfl
theorem okW_map{i:Nat}:okW (.map i)=true:=rfl
theorem okW_nilm:okW .jl=true:=rfl
theorem okW_niface:okW .bH=true:=rfl
theorem okW_agg{l:List AV}:okW (.agg l)=jj l:=rfl
theorem okW_tuple{l:List AV}:okW (.tuple l)=jj l:=rfl
theorem aW{i:Nat}(h:i<9223372036854775807):IntKind.i64.wrap ((i:Int)+1)=((i+1:Nat):Int):=by
 rw[IntWalk.i64_in _ (by omega)];omega
theorem rd_row{S:AS}{B g n:Nat}{cap:Option Nat}{vs:List AV}{low:Nat}{frz:Bool}{e:TypeId}(h:S.h.get B=some (.row vs low g frz e))(hl:low<=g)(hn:vs.length=n)(hb:B<S.next)(hc:eu n cap=true):Sl S (.slice B g 0 n n 1 cap) 1 vs:=by
 refine⟨by simp[isSl,hc],?_,by rw[hn];simp[sLen],hb⟩;cases n with
 |zero=>have:vs=[]:=List.length_eq_zero_iff.1 hn;subst this;rfl
 |succ n=>simp[jR,dJ,h,bt,hl,<-hn]
theorem wr_row{S:AS}{B g n j:Nat}{cap:Option Nat}{vs:List AV}{x:AV}{low:Nat}{e:TypeId}(h:S.h.get B=some (.row vs low g false e))(hn:vs.length=n)(hj:j<n):
  AM S (j5 (.slice B g 0 n n 1 cap) j) [x]=some ⟨S.h.set B (.row (vs.set j x) g g false e),S.next⟩:=by
 simp only[j5,gh,mA,h,gk];rw[if_pos ⟨trivial,by simp;omega,trivial⟩];rw[Nat.zero_add,Nat.mul_one,wg (by omega)];congr 4;rw[List.set_eq_take_append_cons_drop,if_pos (by omega)];simp
def j8(v:AV)(l h:Nat):AV:=match v with
 | .slice id g off _ lim sz none=>.slice id g (off+l*sz) (h-l) lim sz none
 | .slice id g off _ lim sz (some c)=>Ca id g off lim sz l h c
 |v=>v
theorem fm{cx:Cx}{F:Fr}{t:TypeId}{p:Nat×Nat×Nat}{v:AV}{lo hi:Option Operand}{l k:Nat}(h:oz cx t=some p)(hv:isSl p.2.1 v=true)(hl:bound F lo 0=some l)(hh:bound F hi (sLen v)=some k)(h1:l<=k)(h2:k<=sLen v):
  eK cx F t v lo hi none=some (j8 v l k):=by
 obtain⟨hu,hs,_⟩:=iU h;cases v<;>simp only[isSl,Bool.false_eq_true]at hv
 .have hk:k=0:=by simpa[sLen]using h2
  subst hk;obtain rfl:l=0:=by omega
  have hb:bounds F 0 0 lo hi none=some (0,0,0):=by
   unfold bounds;have hh':bound F hi 0=some 0:=hh;rw[hl,hh'];rfl
  unfold eK;simp only[hu,hs,hb];rfl
 .rename_i id g off len lim z cap;simp only[Bool.and_eq_true,decide_eq_true_eq]at hv;obtain⟨hz,hc⟩:=hv;subst hz;simp only[sLen]at hh h2;cases cap with
  |none=>
   have hb:bounds F len (ny len none) lo hi none=some (l,k,len):=by
    unfold bounds;rw[hl,hh];have e:bound F none (ny len none)=some len:=rfl;rw[e];simp[cH,h1,h2,ny,yp]
   unfold eK;simp only[hu,hs,hb,bF,decide_true,cond_true,aN];have e2:(yp (none:Option Operand)||yp (none:Option Nat))=false:=rfl;rw[e2];rfl
  |some c=>
   simp only[eu,decide_eq_true_eq]at hc;have hb:bounds F len (ny len (some c)) lo hi none=some (l,k,c):=by
    unfold bounds;rw[hl,hh];have e:bound F none (ny len (some c))=some c:=rfl;rw[e];have:k<=c:=by omega
    simp[cH,h1,this,ny,yp]
   unfold eK;simp only[hu,hs,hb,bF,decide_true,cond_true];rfl
theorem jF{F:Fr}{d:Nat}:bound F none d=some d:=by simp[bound]
theorem bound_some{F:Fr}{o:Operand}{d:Nat}:bound F (some o) d=eR (eval F o):=by simp[bound]
theorem qf{k:IntKind}{n:Nat}:eR (.int k (n:Int))=some n:=by simp[eR]
theorem natOf_zero{k:IntKind}:eR (.int k 0)=some 0:=by simp[eR]
theorem natOf_one{k:IntKind}:eR (.int k 1)=some 1:=by simp[eR]
theorem Dm{S:AS}{v:AV}{sz:Nat}{cs:List AV}(h:Sl S v sz cs){l k:Nat}(h1:l<=k)(h2:k<=sLen v):sLen (j8 v l k)=k-l:=by
 have yM:=h.sl;rcases h.cases with rfl|⟨id,g,off,n,lim,cap,rfl⟩
 .simp[sLen]at h2;subst h2;simp[j8,sLen]
 .cases cap with
  |none=>simp[j8,sLen]
  |some c=>
   simp only[isSl,eu,Bool.and_eq_true,decide_eq_true_eq]at yM;simp only[sLen]at h2;simp only[j8,Ca,bF];by_cases hc:c=l
   .simp[hc,sLen];omega
   .simp[hc,sLen,aN]
theorem Sl.cut{S:AS}{v:AV}{sz:Nat}{cs:List AV}(h:Sl S v sz cs){l k:Nat}(h1:l<=k)(h2:k<=sLen v):Sl S (j8 v l k) sz ((cs.drop (l*sz)).take ((k-l)*sz)):=by
 have hlen:=Dm h h1 h2;have qY:((cs.drop (l*sz)).take ((k-l)*sz)).length=(k-l)*sz:=by
  have h3:=h.len;have h4:l*sz+(k-l)*sz<=sLen v*sz:=by rw[<-Nat.add_mul];exact Nat.mul_le_mul_right _ (by omega)
  simp;omega
 by_cases h0:k-l=0
 .have pA:(cs.drop (l*sz)).take ((k-l)*sz)=[]:=by rw[h0];simp
  rw[pA];rcases h.cases with rfl|⟨id,g,off,n,lim,cap,rfl⟩
  .exact Sl.nil
  .have hold:=h.old;have yM:=h.sl;cases cap with
   |none=>
    have e:j8 (.slice id g off n lim sz none) l k=.slice id g (off+l*sz) (k-l) lim sz none:=rfl;rw[e,h0];exact⟨by simp[isSl,eu],rfl,by simp[sLen],hold⟩
   |some c=>
    simp only[j8,Ca,bF];by_cases hc:c=l
    .simp only[hc,decide_true,cond_true];exact⟨by simp[isSl,eu],rfl,by simp[sLen],hold⟩
    .simp only[hc,decide_false,cond_false,aN];have e:Nat.sub k l=0:=h0;rw[e];exact⟨by simp[isSl,eu],rfl,by simp[sLen],hold⟩
 .obtain⟨id,g,off,n,lim,cap,rfl,cells,low,top,frz,e,hg,g1,g2,g3,g4⟩:=pa h (k:=l) (by omega);have hold:=h.old;have yM:=h.sl;simp only[sLen]at h2;obtain⟨m,hm⟩:∃m,k-l=m+1:=⟨k-l-1,by omega⟩
  have hle:l*sz+(k-l)*sz<=n*sz:=by rw[<-Nat.add_mul];exact Nat.mul_le_mul_right _ (by omega)
  have key:∀Fv,jR S (.slice id g (off+l*sz) (k-l) lim sz Fv)=some ((cs.drop (l*sz)).take ((k-l)*sz)):=by
   intro Fv;rw[hm];simp only[jR,dJ,hg,bt];rw[<-hm,if_pos ⟨g1,g2,by omega⟩,<-g4,List.drop_take,List.take_take,Nat.min_eq_left (by omega),List.drop_drop]
  have fin:∀Fv,eu (k-l) Fv=true->Sl S (.slice id g (off+l*sz) (k-l) lim sz Fv) sz ((cs.drop (l*sz)).take ((k-l)*sz)):=
   fun Fv hc=>⟨by simp[isSl,hc],key Fv,by rw[qY];simp[sLen],hold⟩
  cases cap with
  |none=>exact fin none rfl
  |some c=>
   simp only[isSl,eu,Bool.and_eq_true,decide_eq_true_eq]at yM;simp only[j8,Ca,bF];have hc:c≠l:=by omega
   simp only[hc,decide_false,cond_false,aN];exact fin (some (Nat.sub c l)) (by show eu (k-l) (some (c-l))=true;simp[eu];omega)
theorem repL_one(n:Nat)(z:AV):ke n [z]=List.replicate n z:=by
 induction n with
 |zero=>rfl
 |succ n ih=>
  show fH [z] (ke n [z])=_;rw[bz,ih];rfl
theorem EO{cx:Cx}{F:Fr}{t:TypeId}{p:Nat×Nat×Nat}{id:Nat}{l c:Operand}{z z':AV}{n:Nat}(h:oz cx t=some p)(h1:p.2.1=1)(hz:zeroOf cx p.1=some z)(hc:cellsOf z=some [z'])(hl:eR (eval F l)=some n)(hk:eR (eval F c)=some n)(hf:fits n p.2.2=true):
  aA cx F id (.makeSlice t l c)=some (.slice id 0 0 n n 1 (some n),.row (List.replicate n z') 0 0 false p.1):=by
 obtain⟨hu,hs,hb,_,_⟩:=iU h;obtain⟨e,sz,bs⟩:=p;simp only at h1 hu hs hb hz hf;subst h1;unfold aA;simp only[hu,hs,hb,hz,hc,hl,hk,hf,cH,Nat.le_refl,repL_one];have e1:(Nat.beq (eG [z']) (Nat.succ 0)&&decide True&&true)=true:=rfl;rw[e1];simp
section
variable{cx:Cx}{F:Fr}{S:AS}{t:TypeId}
variable{dst:Option Tmp}{ty:TypeId}{pos:String}{af:Array Edge}{gd:Option (Nat×Bool)}
def ptT(cx:Cx)(t:TypeId):Bool:=match bC cx t with|some (.pointer _)=>true|_=>false
theorem vB(h:ptT cx t=true):∃e,bC cx t=some (.pointer e):=by
 unfold ptT at h;split at h
 .rename_i e hu;exact⟨e,hu⟩
 .cases h
theorem eq_nilp{c:Bool}{a b d e:Nat}(h:ptT cx t=true):aS cx .eql t c (.ptr a b d e) .bM=some (.bool false):=by
 obtain⟨u,hu⟩:=vB h;have e1:sW cx 6 t (.ptr a b d e) .bM=some false:=by
  show (match bC cx t with|none=>none|some d'=>iD cx (sW cx 5) t d' (.ptr a b d e) .bM)=_;rw[hu];rfl
 simp[aS,Aq,rC,e1]
theorem ne_nilp{c:Bool}{a b d e:Nat}(h:ptT cx t=true):aS cx .neq t c (.ptr a b d e) .bM=some (.bool true):=by
 obtain⟨u,hu⟩:=vB h;have e1:sW cx 6 t (.ptr a b d e) .bM=some false:=by
  show (match bC cx t with|none=>none|some d'=>iD cx (sW cx 5) t d' (.ptr a b d e) .bM)=_;rw[hu];rfl
 simp[aS,Aq,rC,e1]
theorem eq_nilp0{c:Bool}(h:ptT cx t=true):aS cx .eql t c .bM .bM=some (.bool true):=by
 obtain⟨u,hu⟩:=vB h;have e1:sW cx 6 t .bM .bM=some true:=by
  show (match bC cx t with|none=>none|some d'=>iD cx (sW cx 5) t d' .bM .bM)=_;rw[hu];rfl
 simp[aS,Aq,rC,e1]
theorem ne_nilp0{c:Bool}(h:ptT cx t=true):aS cx .neq t c .bM .bM=some (.bool false):=by
 obtain⟨u,hu⟩:=vB h;have e1:sW cx 6 t .bM .bM=some true:=by
  show (match bC cx t with|none=>none|some d'=>iD cx (sW cx 5) t d' .bM .bM)=_;rw[hu];rfl
 simp[aS,Aq,rC,e1]
def Eh(v:AV):Option AV:=match v with | .ptr a b c d=>some (.ptr a b c d) | .func (.func f) a b=>some (.func (.func f) a b) | .map i=>some (.map i)|_=>none
theorem nilCk_ptr{a b c d:Nat}:Eh (.ptr a b c d)=some (.ptr a b c d):=rfl
theorem nilCk_func{f:FuncId}{a b:List AV}:Eh (.func (.func f) a b)=some (.func (.func f) a b):=rfl
theorem nilCk_map{i:Nat}:Eh (.map i)=some (.map i):=rfl
theorem vp{x:Tmp}{v u:AV}(hx:sl F x=v)(h:Eh v=some u):bj cx F S ⟨dst,.nilCheck (.tmp x),ty,pos,af,gd⟩=.val u S:=by
 unfold Eh at h;split at h
 .cases h;exact uF ((aJ F x).trans hx)
 .cases h;exact tj ((aJ F x).trans hx)
 .cases h;simp only[bj,(aJ F x).trans hx]
 .cases h
end
def mapT(cx:Cx)(t:TypeId):Bool:=match bC cx t with|some (.map _ _)=>true|_=>false
theorem freshV_map{cx:Cx}{F:Fr}{t:TypeId}{id:Nat}(h:mapT cx t=true):aA cx F id (.makeMap t none)=some (.map id,.map [] 0):=by
 unfold mapT at h;split at h
 .rename_i k e hu;unfold aA;simp[hu,rG]
 .cases h
def jY(cx:Cx)(s d:TypeId):Option IntKind:=match bC cx s,bC cx d with|some _,some (.int k)=>some k|_,_=>none
def intOf(v:AV):Option Int:=match v with | .int _ n=>some n|_=>none
theorem intOf_int{k:IntKind}{n:Int}:intOf (.int k n)=some n:=by simp[intOf]
theorem aop_conv{cx:Cx}{F:Fr}{S:AS}{dst:Option Tmp}{ty:TypeId}{pos:String}{af:Array Edge}{gd:Option (Nat×Bool)}{s d:TypeId}{x:Tmp}{v:AV}{k:IntKind}{n:Int}
  (hx:sl F x=v) (h:jY cx s d=some k) (hv:intOf v=some n):bj cx F S ⟨dst,.convert s d (.tmp x),ty,pos,af,gd⟩=.val (.int k (k.wrap n)) S:=by
 unfold jY at h;split at h
 .rename_i e k' h1 h2;cases h;cases v<;>simp[intOf]at hv;subst hv;exact CA h1 h2 ((aJ F x).trans hx)
 .cases h
theorem E8{cx:Cx}{ops:List Oper}{F:Fr}{S:AS}{Q:Fr->AS->Prop}(P:Fr->AS->Prop)(h:ko cx ops F S P)(k:∀G T,P G T->Q G T):ko cx ops F S Q:=by
 have h1:=h.run;refine⟨?_⟩;unfold sX at h1⊢;cases hp:D6 cx ops with
 |none=>rw[hp]at h1;exact h1
 |some rows=>
  rw[hp]at h1;exact eN h1 fun G T sn hh=>⟨hh.1,k _ _ hh.2⟩
structure Above(lo:Nat)(S T:AS):Prop where
 h:∀id,lo<=id->id<S.next->T.h.get id=S.h.get id
 next:S.next<=T.next
theorem isSl_nils{z:Nat}:isSl z .aq=true:=by simp[isSl,eu]
theorem isSl_slice{z a b c d e f:Nat}{g:Option Nat}:isSl z (.slice a b c d e f g)=(decide (f=z)&&eu d g):=by simp[isSl,eu]
theorem capB_none{n:Nat}:eu n none=true:=by simp[eu]
theorem capB_some{n c:Nat}:eu n (some c)=decide (n<=c):=by simp[eu]
theorem isNil_nils:isNil .aq=true:=rfl
theorem Ew{a b c d e f:Nat}{g:Option Nat}:isNil (.slice a b c d e f g)=false:=rfl
theorem sLen_nils:sLen .aq=0:=rfl
theorem ij{a b c d e f:Nat}{g:Option Nat}:sLen (.slice a b c d e f g)=d:=rfl
theorem Cg:cellsOf .kM=some [.kM]:=rfl
theorem Cf:cellsOf .jl=some [.jl]:=rfl
theorem Fp{i:Nat}:cellsOf (.map i)=some [.map i]:=rfl
theorem Ch{f:Fn}{a b:List AV}:cellsOf (.func f a b)=some [.func f a b]:=rfl
theorem Sl.cells{S:AS}{v:AV}{sz:Nat}{cs:List AV}(h:Sl S v sz cs):cellsOf v=some [v]:=by rcases h.cases with rfl|⟨_,_,_,_,_,_,rfl⟩<;>rfl
attribute [simp] freshV_map intOf_int aop_conv fm jF bound_some qf natOf_zero natOf_one EO capB_none capB_some Cg Cf Fp Ch okV_pAt isSl_nils isSl_slice isNil_nils Ew sLen_nils ij rowsW_nil rowsW_p rowsW_r rowsW_f rowsW_e wontP_app wontR_app wontF_app wontE_app stepV_free stepV_run stepV_skip Dq stepA_free stepA_run stepA_skip Dv freP_some valP_val aopIs_val reP_free reP_run reP_skip reP_undef
 okN_zero okN_back okN_keep liveN_zero liveN_succ decL_one decL_more ta DT DU reLive_nil DS rJ comL qV comA tS lr okW_slice okW_ptr okW_int okW_bool okW_str okW_nils okW_nilp okW_map okW_nilm okW_niface okW_agg okW_tuple okW_func jr jj
 len_sl Cw zn idxOf_int inA_int eq_nilp ne_nilp eq_nilp0 ne_nilp0 nilCk_ptr nilCk_func nilCk_map vp eq_nil ne_nil freshV_one pH
end Go.Am
end
