/-
  The abstract machine: slices of unknown shape, as rules for simp.
-/
import Derived.Test.YthklfandhmkpiaaGreatDoorAmHeap
import Derived.Test.YthklfandhmkpiaaGreatDoorAmWin
open Bool renaming false_eq_true->zza,and_eq_true->zzb
open Option.some renaming injEq->zzc
open Nat renaming mul->zzd,mul_le_mul_right->zze
open List renaming take_succ_eq_append_getElem->zzf
set_option linter.unusedSimpArgs false
noncomputable section
namespace Go.Am
open Go
def eS(n:Nat):Option Nat->Bool|none=>true|some c=>decide (n<=c)
def isSl(sz:Nat):AV->Bool | .ar=>true | .slice _ _ _ n _ z c=>decide (z=sz)&&eS n c|_=>false
def sLen:AV->Nat | .slice _ _ _ n _ _ _=>n|_=>0
def isNil:AV->Bool | .ar=>true|_=>false
def aV:AV->Nat | .slice id ..=>id+1 | .ptr id ..=>id+1 | .map id=>id+1|_=>0
def wV(v:AV)(k:Nat):AV:=match v with | .slice id g off _ aM sz _=>.ptr id g (off+k*sz) aM|_=>.undef
def lY(S:AS)(v:AV):Option (List AV):=
 match v with
 | .ar=>some []
 | .slice id g off n aM sz _=>match n with|0=>some []|n+1=>rd S id g off ((n+1)*sz) aM
 |_=>none
def n9(cx:Cx)(t:TypeId):Option (Nat×Nat×Nat):=
 match bJ cx t with
 |some (.slice e)=>match aH cx e,bytesOf cx e with
  |some (z+1),some bs=>cond (jq cx e (z+1)) (some (e,z+1,bs)) none
  |_,_=>none
 |_=>none
theorem ig{cx:Cx}{t:TypeId}{p:Nat×Nat×Nat}(h:n9 cx t=some p):bJ cx t=some (.slice p.1)/\aH cx p.1=some p.2.1/\bytesOf cx p.1=some p.2.2/\jq cx p.1 p.2.1=true/\0<p.2.1:=by
 unfold n9 at h;split at h
 .rename_i e hu;split at h
  .rename_i z bs hs hb;cases hz:jq cx e (z+1)with
   |false=>rw[hz]at h;cases h
   |true=>
    rw[hz]at h;cases h;exact⟨hu,hs,hb,hz,Nat.succ_pos _⟩
  .cases h
 .cases h
def idxOf:AV->Nat | .int _ n=>n.toNat|_=>0
def inA(u:AV)(n:Nat):Bool:=match u with | .int _ m=>decide (0<=m)&&decide (m<n)|_=>false
theorem idxOf_int{k:IntKind}{n:Int}:idxOf (.int k n)=n.toNat:=rfl
theorem inA_nat{u:AV}{n:Nat}(h:inA u n=true):∃(k:IntKind)(i:Nat),u=.int k i/\i<n:=by
 cases u<;>simp only[inA,zza,zzb,decide_eq_true_eq]at h;rename_i k m;exact⟨k,m.toNat,by rw[Int.toNat_of_nonneg h.1],by omega⟩
theorem inA_int{k:IntKind}{m:Int}{n:Nat}:inA (.int k m) n=(decide (0<=m)&&decide (m<n)):=by simp[inA]
structure Sl(S:AS)(v:AV)(sz:Nat)(cs:List AV):Prop where
 sl:isSl sz v=true
 rd:lY S v=some cs
 len:cs.length=sLen v*sz
 old:aV v<=S.nx
theorem rdS_set{S:AS}{v:AV}{id n:Nat}{o:dp}(h:aV v<=id):lY ⟨S.h.set id o,n⟩ v=lY S v:=by
 unfold lY;split<;>try rfl
 rename_i i g off n aM sz _;cases n with
 |zero=>rfl
 |succ n=>
  have cl:i≠id:=by simp only[aV]at h;omega
  simp only[dP,ah _ _ cl]
theorem rdS_sub{S T:AS}{v:AV}{lo:Nat}(hs:∀id,id<lo->T.h.get id=S.h.get id)(h:aV v<=lo):lY T v=lY S v:=by
 unfold lY;split<;>try rfl
 rename_i i g off n aM sz _;cases n with
 |zero=>rfl
 |succ n=>
  have cR:i<lo:=by simp only[aV]at h;omega
  simp only[dP,hs i cR]
theorem Sl.sub{S T:AS}{v:AV}{sz:Nat}{cs:List AV}{lo:Nat}(h:Sl S v sz cs)(hs:∀id,id<lo->T.h.get id=S.h.get id)(hn:S.nx<=T.nx)(hb:aV v<=lo):Sl T v sz cs:=
 ⟨h.sl,by rw[rdS_sub hs hb];exact h.rd,h.len,Nat.le_trans h.old hn⟩
theorem Sl.toSub{S T:AS}{v:AV}{sz:Nat}{cs:List AV}(h:Sl S v sz cs)(hs:Sub S T):Sl T v sz cs:=h.sub hs.h hs.nx h.old
theorem Sl.nil{S:AS}{sz:Nat}:Sl S .ar sz []:=⟨rfl,rfl,by simp[sLen],Nat.zero_le _⟩
theorem Sl.gx{S:AS}{v:AV}{cs:List AV}(h:Sl S v 1 cs):sLen v=cs.length:=by have:=h.len;omega
theorem Sl.isNil{S:AS}{v:AV}{sz:Nat}{cs:List AV}(h:Sl S v sz cs)(hn:isNil v=true):v=.ar/\cs=[]:=by
 cases v<;>simp only[Am.isNil,zza]at hn;have:=h.rd;exact⟨rfl,by simp only[lY,zzc]at this;exact this.symm⟩
theorem Sl.cases{S:AS}{v:AV}{sz:Nat}{cs:List AV}(h:Sl S v sz cs):v=.ar\/∃id g off n aM cap,v=.slice id g off n aM sz cap:=by
 have:=h.sl;cases v<;>simp only[isSl,zza]at this
 .exact .inl rfl
 .rename_i id g off n aM z cap;simp only[zzb,decide_eq_true_eq]at this;obtain⟨this,_⟩:=this;subst this;exact .inr ⟨id,g,off,n,aM,cap,rfl⟩
section
variable{cx:Cx}{F:Fr}{S:AS}{t:TypeId}{p:Nat×Nat×Nat}{v:AV}
variable{dst:Option Tmp}{ty:TypeId}{pos:String}{af:Array Edge}{gd:Option (Nat×Bool)}
theorem len_sl{ts:List TypeId}{as:List AV}(h:n9 cx t=some p)(hv:isSl p.2.1 v=true):aY cx S .len (t::ts) (v::as)=.val (.int .i64 (sLen v)) S:=by
 obtain⟨hu,_⟩:=ig h;cases v<;>simp only[isSl,zza]at hv
 .exact len_nils hu
 .exact sj hu
theorem BD{x ix:Tmp}{u:AV}(hx:sl F x=v)(hi:sl F ix=u)(h:n9 cx t=some p)(hv:isSl p.2.1 v=true)(hn:inA u (sLen v)=true):
  bE cx F S ⟨dst,.indexAddr t (.tmp x) (.tmp ix),ty,pos,af,gd⟩=.val (wV v (idxOf u)) S:=by
 obtain⟨hu,hs,_⟩:=ig h;obtain⟨k,i,rfl,ck⟩:=inA_nat hn;cases v<;>simp only[isSl,zza]at hv
 .simp[sLen]at ck
 .rename_i id g off len aM z cap;simp only[zzb,decide_eq_true_eq]at hv;replace hv:=hv.1;rw[gD (i:=i) ((aA F x).trans hx) hu (by rw[hs,hv]) ((aA F ix).trans hi) rfl ck];rfl
theorem xW{x:Tmp}{k:IntKind}{m:Int}(hx:sl F x=v)(h:n9 cx t=some p)(hv:isSl p.2.1 v=true)(hn:inA (.int k m) (sLen v)=true):
  bE cx F S ⟨dst,.indexAddr t (.tmp x) (.const (.int k m)),ty,pos,af,gd⟩=.val (wV v m.toNat) S:=by
 obtain⟨hu,hs,_⟩:=ig h;obtain⟨k',i,e,ck⟩:=inA_nat hn;cases e;cases v<;>simp only[isSl,zza]at hv
 .simp[sLen]at ck
 .rename_i id g off len aM z cap;simp only[zzb,decide_eq_true_eq]at hv;replace hv:=hv.1;rw[gD (i:=i) ((aA F x).trans hx) hu (by rw[hs,hv]) (by rw[eval_const,ofV_int]) rfl ck];rfl
theorem qN{S:AS}{v:AV}{sz:Nat}{cs:List AV}(h:Sl S v sz cs){k:Nat}(hk:k<sLen v):∃id g off n aM cap,v=.slice id g off n aM sz cap /\
  ∃cells low top frz e,S.h.get id=some (.row cells low top frz e)/\low<=g/\g<=top/\off+n*sz<=aM/\(cells.drop off).take (n*sz)=cs:=by
 rcases h.cases with rfl|⟨id,g,off,n,aM,cap,rfl⟩
 .simp[sLen]at hk
 .have hr:=h.rd;simp only[sLen]at hk;obtain⟨n,rfl⟩:∃m,n=m+1:=⟨n-1,by omega⟩
  simp only[lY,dP]at hr;refine⟨id,g,off,n+1,aM,cap,rfl,?_⟩;unfold rdO at hr;split at hr
  .rename_i cells low top frz e hg;split at hr
   .rename_i hc;exact⟨cells,low,top,frz,e,hg,hc.1,hc.2.1,hc.2.2,by simpa using hr⟩
   .cases hr
  .cases hr
theorem dV{e:TypeId}{cs:List AV}{k:Nat}{x:AV}(h:Sl S v 1 cs)(hk:cs[k]?=some x)(ha:aX cx e=some false):loadT cx S e (wV v k)=some x:=by
 have hkl:k<sLen v:=by rw[h.gx];exact (List.getElem?_eq_some_iff.1 hk).1
 obtain⟨id,g,off,n,aM,cap,rfl,cells,low,top,frz,e',hg,h1,h2,h3,h4⟩:=qN h hkl;simp only[sLen]at hkl;simp only[wV,oW,re,ha,sg,hg,cr];rw[if_pos ⟨h1,h2,by omega⟩];have:(cells.drop (off+k*1)).take 1=[x]:=by
  rw[<-h4,List.getElem?_take,if_pos (by omega),List.getElem?_drop]at hk;rw[Nat.mul_one,List.take_one,List.head?_drop,hk];rfl
 rw[this];rfl
theorem loadT_agg{e:TypeId}{cs:List AV}{k sz:Nat}(h:Sl S v sz cs)(hk:k<sLen v)(ha:aX cx e=some true)(hs:aH cx e=some sz):loadT cx S e (wV v k)=some (.agg ((cs.drop (k*sz)).take sz)):=by
 obtain⟨id,g,off,n,aM,cap,rfl,cells,low,top,frz,e',hg,h1,h2,h3,h4⟩:=qN h hk;simp only[sLen]at hk;have hle:k*sz+sz<=n*sz:=by rw[<-Nat.succ_mul];exact zze _ hk
 simp only[wV,oW,re,ha,hs,yU,hg,cr];rw[if_pos ⟨h1,h2,by omega⟩];simp only[zH,zzc,AV.agg.injEq];rw[<-h4,List.drop_take,List.take_take,Nat.min_eq_left (by omega),List.drop_drop]
theorem eq_nil{c:Bool}(h:n9 cx t=some p)(hv:isSl p.2.1 v=true):bI cx .eql t c v .ar=some (.bool (isNil v)):=by
 obtain⟨hu,_⟩:=ig h;have e:tA cx 6 t v .ar=some (isNil v):=by
  show (match bJ cx t with|none=>none|some d=>gP cx (tA cx 5) t d v .ar)=_;rw[hu];cases v<;>simp only[isSl,zza]at hv<;>rfl
 cases v<;>simp only[isSl,zza]at hv<;>simp[bI,qh,mh,e]
theorem ne_nil{c:Bool}(h:n9 cx t=some p)(hv:isSl p.2.1 v=true):bI cx .neq t c v .ar=some (.bool (!isNil v)):=by
 obtain⟨hu,_⟩:=ig h;have e:tA cx 6 t v .ar=some (isNil v):=by
  show (match bJ cx t with|none=>none|some d=>gP cx (tA cx 5) t d v .ar)=_;rw[hu];cases v<;>simp only[isSl,zza]at hv<;>rfl
 cases v<;>simp only[isSl,zza]at hv<;>simp[bI,qh,mh,e]
end
theorem zo{F:Fr}{cx:Cx}:∀(l:List (Nat×Operand))(k:Nat)(pre z:List AV)(vs:List AV),pre.length=k->l.map (·.1)=List.range' k l.length->l.map (fun p=>cellsOf (eval F p.2))=vs.map (fun v=>some [v])->z.length=l.length ->
  e9 cx F (fun i=>some (zzd i 1,1)) l (pre++z)=some (pre++vs)
 |[],k,pre,z,vs,_,_,hv,hz=>by
  cases vs with
  |nil=>have:z=[]:=List.length_eq_zero_iff.1 hz;subst this;rfl
  |cons v vs=>simp at hv
 |q::l,k,pre,z,vs,hp,hi,hv,hz=>by
  cases vs with
  |nil=>simp at hv
  |cons v vs=>
   cases z with
   |nil=>simp at hz
   |cons y z=>
    simp only[List.map_cons,List.cons.injEq,List.length_cons,List.range'_succ]at hi hv hz;show (match (some (zzd q.1 1,1):Option (Nat×Nat)),cellsOf (eval F q.2)with
     |some (off,size),some new=>cond (Nat.beq (dN new) size&&Nat.ble (Nat.add off size) (dN (pre++y::z))) (e9 cx F (fun i=>some (zzd i 1,1)) l (ec off (pre++y::z) new)) none
     |_,_=>none)=_
    rw[hv.1,hi.1];simp only[bL,bC,cG,List.length_cons,List.length_nil,List.length_append];have h1:zzd k 1=k:=Nat.mul_one k;rw[h1];have h2:decide (Nat.add k 1<=pre.length+(z.length+1))=true:=by
     rw[decide_eq_true_eq];show k+1<=_;omega
    rw[h2];simp only[Nat.zero_add,decide_true,Bool.and_self,cond_true];have h3:ec k (pre++y::z) [v]=(pre++[v])++z:=by
     rw[iG _ _ _ (by simp;omega)];subst hp;simp
    rw[h3,zo l (k+1) (pre++[v]) z vs (by simp[hp]) hi.2 hv.2 (by omega)];simp
section
variable{cx:Cx}{F:Fr}{S:AS}{t:TypeId}{p:Nat×Nat×Nat}{id:Nat}
theorem aB{v:Operand}{x:AV}(h:n9 cx t=some p)(h1:p.2.1=1)(hx:cellsOf (eval F v)=some [x]):aO cx F id (.buildSlice t 1 #[(0,v)])=some (.slice id 0 0 1 1 1 (some 1),.row [x] 0 0 false p.1):=by
 obtain⟨hu,hs,hb,hz,hp⟩:=ig h;obtain⟨e,sz,bs⟩:=p;simp only at h1 hu hs hb hz;subst h1;unfold jq at hz;cases su:zeroOf cx e with
 |none=>rw[su]at hz;cases hz
 |some z=>
  rw[su]at hz;cases hc:cellsOf z with
  |none=>simp[hc]at hz
  |some zl=>
   simp only[hc]at hz;simp only[bC,bL,decide_eq_true_eq]at hz;obtain⟨y,rfl⟩:∃y,zl=[y]:=by
    cases zl with
    |nil=>simp at hz
    |cons y l=>cases l with
     |nil=>exact⟨y,rfl⟩
     |cons _ _=>simp at hz
   unfold aO;simp only[hu,hs,su,hc];have hf:e9 cx F (fun i=>some (zzd i 1,1)) [(0,v)] [y]=some [x]:=by
    have:=zo (cx:=cx) (F:=F) [(0,v)] 0 [] [y] [x] rfl rfl (by simp[hx]) rfl;simpa using this
   have hr:fD 1 [y]=[y]:=rfl;have hb:(Nat.beq (dN [y]) (Nat.succ 0)&&Nat.ble (zzd 1 (Nat.succ 0)) 16777216)=true:=rfl;rw[hb];simp only[cond_true];show (match e9 cx F (fun i=>some (zzd i 1,1)) [(0,v)] (fD 1 [y])with|some cells=>some (AV.slice id 0 0 1 1 1 (some 1),dp.row cells 0 0 false e)|none=>none)=_;rw[hr,hf]
theorem oB(h:n9 cx t=some p):aO cx F id (.buildSlice t 0 #[])=some (.slice id 0 0 0 0 p.2.1 (some 0),.row [] 0 0 false p.1):=by
 obtain⟨hu,hs,hb,hz,hp⟩:=ig h;obtain⟨e,sz,bs⟩:=p;simp only at hu hs hb hz hp;obtain⟨z0,rfl⟩:∃z0,sz=z0+1:=⟨sz-1,by omega⟩
 unfold jq at hz;cases su:zeroOf cx e with
 |none=>rw[su]at hz;cases hz
 |some z=>
  rw[su]at hz;cases hc:cellsOf z with
  |none=>simp[hc]at hz
  |some zl=>
   simp only[hc]at hz;simp only[bC,bL,decide_eq_true_eq]at hz;unfold aO;simp only[hu,hs,su,hc];have hb:(Nat.beq (dN zl) (Nat.succ z0)&&Nat.ble (zzd 0 (Nat.succ z0)) 16777216)=true:=by
    simp[bC,cG,bL,hz]
   rw[hb];simp only[cond_true];show some (AV.slice id 0 0 0 (zzd 0 (Nat.succ z0)) (Nat.succ z0) (some 0),dp.row [] 0 0 false e)=_;rw[show zzd 0 (Nat.succ z0)=0 from Nat.zero_mul _]
end
def Own(S:AS)(lo:Nat)(v:AV)(sz e:Nat)(cs:List AV):Prop:=
 (v=.ar/\cs=[])\/∃id g low n,v=.slice id g 0 n (n*sz) sz none/\lo<=id/\id<S.nx/\S.h.get id=some (.row cs low g false e)/\low<=g/\cs.length=n*sz
theorem Own.sl{S:AS}{lo:Nat}{v:AV}{sz e:Nat}{cs:List AV}(h:Own S lo v sz e cs):Sl S v sz cs:=by
 rcases h with⟨rfl,rfl⟩|⟨id,g,low,n,rfl,h1,h2,h3,h4,h5⟩
 .exact Sl.nil
 .refine⟨by simp[isSl,eS],?_,by simp[sLen,h5],by simp[aV];omega⟩;cases n with
  |zero=>simp at h5;simp[lY,h5]
  |succ n=>
   simp only[lY,dP,h3,cr];rw[if_pos ⟨h4,Nat.le_refl _,by omega⟩];simp[<-h5]
structure Stay(lo:Nat)(S T:AS):Prop where
 h:∀id,id<lo->T.h.get id=S.h.get id
 nx:S.nx<=T.nx
def notInt(d:TypeDesc):Bool:=match d with | .int _=>false|_=>true
theorem taken_sl{S:AS}{x:AV}{sz:Nat}{ds:List AV}(h:Sl S x sz ds):taken S sz x=some (sLen x,ds):=by
 rcases h.cases with rfl|⟨id,g,off,n,aM,cap,rfl⟩
 .have:=h.rd;simp only[lY,zzc]at this;subst this;rfl
 .have:=h.rd;unfold taken;simp only[bC,decide_true,cond_true,sLen];cases n with
  |zero=>simp only[lY,zzc]at this;subst this;rfl
  |succ n=>
   simp only[lY]at this;have e1:zzd (n+1) sz=(n+1)*sz:=rfl;simp only[e1,this]
theorem wu{cx:Cx}{S:AS}{t u:Nat}{ts:List TypeId}{p:Nat×Nat×Nat}{v x:AV}{d:TypeDesc}(h:n9 cx t=some p)(hu:bJ cx u=some d)(hd:notInt d=true):
  aY cx S .append (t::u::ts) [v,x]=dO (gg S p.1 p.2.1 p.2.2 v x) 4:=by
 obtain⟨ht,hs,hb,hz,hp⟩:=ig h;obtain⟨e,sz,bs⟩:=p;simp only at ht hs hb hz hp;obtain⟨z,rfl⟩:∃z,sz=z+1:=⟨sz-1,by omega⟩
 show (match bJ cx t,bJ cx u with
  |some (.slice e),some (.int _)=>dO (appZ cx S e v x) 3
  |some (.slice e),some _=>match aH cx e,bytesOf cx e with
   |some (Nat.succ z),some bs=>cond (jq cx e (Nat.succ z)) (dO (gg S e (Nat.succ z) bs v x) 4) (AR.err 13)
   |_,_=>AR.err 5
  |_,_=>AR.err 6)=_
 rw[ht,hu];cases d<;>first|(cases hd;done)|simp only[hs,hb,hz,cond_true]
theorem az.ex{cx:Cx}{f:FuncId}{as:List AV}{S:AS}{P:AV->AS->Prop}(h:az cx f as S P):∃v T,P v T/\∀Q:AV->AS->Prop,az cx f as S Q=Q v T:=by
 obtain⟨n,⟨v,T⟩,e,hn,hp⟩:=h;refine⟨v,T,hp,fun Q=>propext ⟨?_,fun hq=>⟨n,⟨v,T⟩,e,hn,hq⟩⟩⟩;rintro⟨m,⟨v',T'⟩,e',_,hq⟩;have h1:=jS (cx:=cx) (Nat.le_add_right n m) (.fn f) as S _ _ e;have h2:=jS (cx:=cx) (Nat.le_add_left m n) (.fn f) as S _ _ e';have h3:(aC.ok (v,T) []:aC (AV×AS))=.ok (v',T') []:=h1.symm.trans h2;cases h3;exact hq
theorem az.eq{cx:Cx}{f:FuncId}{as:List AV}{S T:AS}{v:AV}(h:az cx f as S fun v' T'=>v'=v/\T'=T){Q:AV->AS->Prop}:az cx f as S Q=Q v T:=by
 obtain⟨v',T',⟨rfl,rfl⟩,e⟩:=h.ex;exact e Q
theorem Sl.np{S:AS}{v:AV}{sz:Nat}{cs:List AV}(h:Sl S v sz cs):dH v=false:=by rcases h.cases with rfl|⟨_,_,_,_,_,_,rfl⟩<;>rfl
theorem Sl.ok{S:AS}{v:AV}{sz:Nat}{cs:List AV}(h:Sl S v sz cs):qW v=true:=by rcases h.cases with rfl|⟨_,_,_,_,_,_,rfl⟩<;>rfl
theorem Sl.base{S:AS}{v:AV}{sz:Nat}{cs:List AV}(h:Sl S v sz cs):oK v=true:=by rcases h.cases with rfl|⟨_,_,_,_,_,_,rfl⟩<;>rfl
theorem okV_pAt{v:AV}{k:Nat}:qW (wV v k)=true:=by cases v<;>rfl
theorem okW_ok{v:AV}(h:qW v=true):okW v=true:=by
 cases v<;>try exact h
 rename_i fn a b;cases fn<;>simp[qW,oK]at h
theorem j9{v:AV}(h:qW v=true):okW v=true:=okW_ok h
theorem okW_func{f:FuncId}{a b:List AV}:okW (.func (.func f) a b)=(fQ a&&fQ b):=by simp[okW]
theorem okW_slice{a b c d e f:Nat}{g:Option Nat}:okW (.slice a b c d e f g)=true:=rfl
theorem okW_ptr{a b c d:Nat}:okW (.ptr a b c d)=true:=rfl
theorem okW_int{k:IntKind}{n:Int}:okW (.int k n)=true:=rfl
theorem okW_bool{b:Bool}:okW (.bool b)=true:=rfl
theorem okW_str{s:List Nat}:okW (.str s)=true:=rfl
theorem okW_nils:okW .ar=true:=rfl
theorem okW_nilp:okW .cT=true:=rfl
theorem okW_map{i:Nat}:okW (.map i)=true:=rfl
theorem okW_nilm:okW .jb=true:=rfl
theorem okW_niface:okW .bS=true:=rfl
theorem okW_agg{l:List AV}:okW (.agg l)=fQ l:=rfl
theorem okW_tuple{l:List AV}:okW (.tuple l)=fQ l:=rfl
theorem fV{i:Nat}(h:i<9223372036854775807):IntKind.i64.wrap ((i:Int)+1)=((i+1:Nat):Int):=by
 rw[IntWalk.i64_in _ (by omega)];omega
theorem BT{i:Nat}(h:i<9223372036854775808):IntKind.i64.wrap (i:Int)=(i:Int):=IntWalk.i64_in _ (by omega)
theorem yh{α:Type}{l m:List α}{i:Nat}(h:l.take i=m.take i)(hl:i<l.length)(hm:i<m.length)(he:l[i]=m[i]):l.take (i+1)=m.take (i+1):=by
 rw[zzf hl,zzf hm,h,he]
def uE(v:AV)(l h:Nat):AV:=match v with
 | .slice id g off _ aM sz none=>.slice id g (off+l*sz) (h-l) aM sz none
 | .slice id g off _ aM sz (some c)=>Bh id g off aM sz l h c
 |v=>v
theorem uI{cx:Cx}{F:Fr}{t:TypeId}{p:Nat×Nat×Nat}{v:AV}{lo hi:Option Operand}{l k:Nat}(h:n9 cx t=some p)(hv:isSl p.2.1 v=true)(hl:bound F lo 0=some l)(hh:bound F hi (sLen v)=some k)(h1:l<=k)(h2:k<=sLen v):
  fL cx F t v lo hi none=some (uE v l k):=by
 obtain⟨hu,hs,_⟩:=ig h;cases v<;>simp only[isSl,zza]at hv
 .have hk:k=0:=by simpa[sLen]using h2
  subst hk;obtain rfl:l=0:=by omega
  have hb:bounds F 0 0 lo hi none=some (0,0,0):=by
   unfold bounds;have hh':bound F hi 0=some 0:=hh;rw[hl,hh'];rfl
  unfold fL;simp only[hu,hs,hb];rfl
 .rename_i id g off len aM z cap;simp only[zzb,decide_eq_true_eq]at hv;obtain⟨hz,hc⟩:=hv;subst hz;simp only[sLen]at hh h2;cases cap with
  |none=>
   have hb:bounds F len (mP len none) lo hi none=some (l,k,len):=by
    unfold bounds;rw[hl,hh];have e:bound F none (mP len none)=some len:=rfl;rw[e];simp[cG,h1,h2,mP,vu]
   unfold fL;simp only[hu,hs,hb,bC,decide_true,cond_true,aQ];have e2:(vu (none:Option Operand)||vu (none:Option Nat))=false:=rfl;rw[e2];rfl
  |some c=>
   simp only[eS,decide_eq_true_eq]at hc;have hb:bounds F len (mP len (some c)) lo hi none=some (l,k,c):=by
    unfold bounds;rw[hl,hh];have e:bound F none (mP len (some c))=some c:=rfl;rw[e];have:k<=c:=by omega
    simp[cG,h1,this,mP,vu]
   unfold fL;simp only[hu,hs,hb,bC,decide_true,cond_true];rfl
theorem bound_none{F:Fr}{d:Nat}:bound F none d=some d:=by simp[bound]
theorem gQ{F:Fr}{o:Operand}{d:Nat}:bound F (some o) d=eY (eval F o):=by simp[bound]
theorem c7{k:IntKind}{n:Nat}:eY (.int k (n:Int))=some n:=by simp[eY]
theorem natOf_zero{k:IntKind}:eY (.int k 0)=some 0:=by simp[eY]
theorem natOf_one{k:IntKind}:eY (.int k 1)=some 1:=by simp[eY]
theorem subA_len{S:AS}{v:AV}{sz:Nat}{cs:List AV}(h:Sl S v sz cs){l k:Nat}(h1:l<=k)(h2:k<=sLen v):sLen (uE v l k)=k-l:=by
 have qe:=h.sl;rcases h.cases with rfl|⟨id,g,off,n,aM,cap,rfl⟩
 .simp[sLen]at h2;subst h2;simp[uE,sLen]
 .cases cap with
  |none=>simp[uE,sLen]
  |some c=>
   simp only[isSl,eS,zzb,decide_eq_true_eq]at qe;simp only[sLen]at h2;simp only[uE,Bh,bC];by_cases hc:c=l
   .simp[hc,sLen];omega
   .simp[hc,sLen,aQ]
theorem Sl.cut{S:AS}{v:AV}{sz:Nat}{cs:List AV}(h:Sl S v sz cs){l k:Nat}(h1:l<=k)(h2:k<=sLen v):Sl S (uE v l k) sz ((cs.drop (l*sz)).take ((k-l)*sz)):=by
 have hlen:=subA_len h h1 h2;have sB:((cs.drop (l*sz)).take ((k-l)*sz)).length=(k-l)*sz:=by
  have h3:=h.len;have h4:l*sz+(k-l)*sz<=sLen v*sz:=by rw[<-Nat.add_mul];exact zze _ (by omega)
  simp;omega
 by_cases h0:k-l=0
 .have hnil:(cs.drop (l*sz)).take ((k-l)*sz)=[]:=by rw[h0];simp
  rw[hnil];rcases h.cases with rfl|⟨id,g,off,n,aM,cap,rfl⟩
  .exact Sl.nil
  .have hold:=h.old;have qe:=h.sl;cases cap with
   |none=>
    have e:uE (.slice id g off n aM sz none) l k=.slice id g (off+l*sz) (k-l) aM sz none:=rfl;rw[e,h0];exact⟨by simp[isSl,eS],rfl,by simp[sLen],hold⟩
   |some c=>
    simp only[uE,Bh,bC];by_cases hc:c=l
    .simp only[hc,decide_true,cond_true];exact⟨by simp[isSl,eS],rfl,by simp[sLen],hold⟩
    .simp only[hc,decide_false,cond_false,aQ];have e:Nat.sub k l=0:=h0;rw[e];exact⟨by simp[isSl,eS],rfl,by simp[sLen],hold⟩
 .obtain⟨id,g,off,n,aM,cap,rfl,cells,low,top,frz,e,hg,g1,g2,g3,g4⟩:=qN h (k:=l) (by omega);have hold:=h.old;have qe:=h.sl;simp only[sLen]at h2;obtain⟨m,hm⟩:∃m,k-l=m+1:=⟨k-l-1,by omega⟩
  have hle:l*sz+(k-l)*sz<=n*sz:=by rw[<-Nat.add_mul];exact zze _ (by omega)
  have key:∀xL,lY S (.slice id g (off+l*sz) (k-l) aM sz xL)=some ((cs.drop (l*sz)).take ((k-l)*sz)):=by
   intro xL;rw[hm];simp only[lY,dP,hg,cr];rw[<-hm,if_pos ⟨g1,g2,by omega⟩,<-g4,List.drop_take,List.take_take,Nat.min_eq_left (by omega),List.drop_drop]
  have fin:∀xL,eS (k-l) xL=true->Sl S (.slice id g (off+l*sz) (k-l) aM sz xL) sz ((cs.drop (l*sz)).take ((k-l)*sz)):=
   fun xL hc=>⟨by simp[isSl,hc],key xL,by rw[sB];simp[sLen],hold⟩
  cases cap with
  |none=>exact fin none rfl
  |some c=>
   simp only[isSl,eS,zzb,decide_eq_true_eq]at qe;simp only[uE,Bh,bC];have hc:c≠l:=by omega
   simp only[hc,decide_false,cond_false,aQ];exact fin (some (Nat.sub c l)) (by show eS (k-l) (some (c-l))=true;simp[eS];omega)
theorem repL_one(n:Nat)(z:AV):fD n [z]=List.replicate n z:=by
 induction n with
 |zero=>rfl
 |succ n ih=>
  show gR [z] (fD n [z])=_;rw[cA,ih];rfl
theorem DJ{cx:Cx}{F:Fr}{t:TypeId}{p:Nat×Nat×Nat}{id:Nat}{l c:Operand}{z z':AV}{n:Nat}(h:n9 cx t=some p)(h1:p.2.1=1)(hz:zeroOf cx p.1=some z)(hc:cellsOf z=some [z'])(hl:eY (eval F l)=some n)(hk:eY (eval F c)=some n)(hf:fits n p.2.2=true):
  aO cx F id (.makeSlice t l c)=some (.slice id 0 0 n n 1 (some n),.row (List.replicate n z') 0 0 false p.1):=by
 obtain⟨hu,hs,hb,_,_⟩:=ig h;obtain⟨e,sz,bs⟩:=p;simp only at h1 hu hs hb hz hf;subst h1;unfold aO;simp only[hu,hs,hb,hz,hc,hl,hk,hf,cG,Nat.le_refl,repL_one];have e1:(Nat.beq (dN [z']) (Nat.succ 0)&&decide True&&true)=true:=rfl;rw[e1];simp
section
variable{cx:Cx}{F:Fr}{S:AS}{t:TypeId}
variable{dst:Option Tmp}{ty:TypeId}{pos:String}{af:Array Edge}{gd:Option (Nat×Bool)}
def ptT(cx:Cx)(t:TypeId):Bool:=match bJ cx t with|some (.pointer _)=>true|_=>false
theorem ub(h:ptT cx t=true):∃e,bJ cx t=some (.pointer e):=by
 unfold ptT at h;split at h
 .rename_i e hu;exact⟨e,hu⟩
 .cases h
theorem eq_nilp{c:Bool}{a b d e:Nat}(h:ptT cx t=true):bI cx .eql t c (.ptr a b d e) .cT=some (.bool false):=by
 obtain⟨u,hu⟩:=ub h;have e1:tA cx 6 t (.ptr a b d e) .cT=some false:=by
  show (match bJ cx t with|none=>none|some d'=>gP cx (tA cx 5) t d' (.ptr a b d e) .cT)=_;rw[hu];rfl
 simp[bI,qh,mh,e1]
theorem ne_nilp{c:Bool}{a b d e:Nat}(h:ptT cx t=true):bI cx .neq t c (.ptr a b d e) .cT=some (.bool true):=by
 obtain⟨u,hu⟩:=ub h;have e1:tA cx 6 t (.ptr a b d e) .cT=some false:=by
  show (match bJ cx t with|none=>none|some d'=>gP cx (tA cx 5) t d' (.ptr a b d e) .cT)=_;rw[hu];rfl
 simp[bI,qh,mh,e1]
theorem eq_nilp0{c:Bool}(h:ptT cx t=true):bI cx .eql t c .cT .cT=some (.bool true):=by
 obtain⟨u,hu⟩:=ub h;have e1:tA cx 6 t .cT .cT=some true:=by
  show (match bJ cx t with|none=>none|some d'=>gP cx (tA cx 5) t d' .cT .cT)=_;rw[hu];rfl
 simp[bI,qh,mh,e1]
theorem ne_nilp0{c:Bool}(h:ptT cx t=true):bI cx .neq t c .cT .cT=some (.bool false):=by
 obtain⟨u,hu⟩:=ub h;have e1:tA cx 6 t .cT .cT=some true:=by
  show (match bJ cx t with|none=>none|some d'=>gP cx (tA cx 5) t d' .cT .cT)=_;rw[hu];rfl
 simp[bI,qh,mh,e1]
def CX(v:AV):Option AV:=match v with | .ptr a b c d=>some (.ptr a b c d) | .func (.func f) a b=>some (.func (.func f) a b) | .map i=>some (.map i)|_=>none
theorem nilCk_ptr{a b c d:Nat}:CX (.ptr a b c d)=some (.ptr a b c d):=rfl
theorem nilCk_func{f:FuncId}{a b:List AV}:CX (.func (.func f) a b)=some (.func (.func f) a b):=rfl
theorem nilCk_map{i:Nat}:CX (.map i)=some (.map i):=rfl
theorem tO{x:Tmp}{v u:AV}(hx:sl F x=v)(h:CX v=some u):bE cx F S ⟨dst,.nilCheck (.tmp x),ty,pos,af,gd⟩=.val u S:=by
 unfold CX at h;split at h
 .cases h;exact sR ((aA F x).trans hx)
 .cases h;exact rE ((aA F x).trans hx)
 .cases h;simp only[bE,(aA F x).trans hx]
 .cases h
end
def mapT(cx:Cx)(t:TypeId):Bool:=match bJ cx t with|some (.map _ _)=>true|_=>false
theorem freshV_map{cx:Cx}{F:Fr}{t:TypeId}{id:Nat}(h:mapT cx t=true):aO cx F id (.makeMap t none)=some (.map id,.map [] 0):=by
 unfold mapT at h;split at h
 .rename_i k e hu;unfold aO;simp[hu,oz]
 .cases h
def kq(cx:Cx)(s d:TypeId):Option IntKind:=match bJ cx s,bJ cx d with|some _,some (.int k)=>some k|_,_=>none
def intOf(v:AV):Option Int:=match v with | .int _ n=>some n|_=>none
theorem intOf_int{k:IntKind}{n:Int}:intOf (.int k n)=some n:=by simp[intOf]
theorem aop_conv{cx:Cx}{F:Fr}{S:AS}{dst:Option Tmp}{ty:TypeId}{pos:String}{af:Array Edge}{gd:Option (Nat×Bool)}{s d:TypeId}{x:Tmp}{v:AV}{k:IntKind}{n:Int}
  (hx:sl F x=v) (h:kq cx s d=some k) (hv:intOf v=some n):bE cx F S ⟨dst,.convert s d (.tmp x),ty,pos,af,gd⟩=.val (.int k (k.wrap n)) S:=by
 unfold kq at h;split at h
 .rename_i e k' h1 h2;cases h;cases v<;>simp[intOf]at hv;subst hv;exact BG h1 h2 ((aA F x).trans hx)
 .cases h
theorem aJ{cx:Cx}{ops:List Oper}{F:Fr}{S:AS}{Q:Fr->AS->Prop}(P:Fr->AS->Prop)(h:lD cx ops F S P)(k:∀G T,P G T->Q G T):lD cx ops F S Q:=by
 have h1:=h.run;refine⟨?_⟩;unfold ru at h1⊢;cases hp:CM cx ops with
 |none=>rw[hp]at h1;exact h1
 |some rows=>
  rw[hp]at h1;exact eP h1 fun G T sn hh=>⟨hh.1,k _ _ hh.2⟩
structure Above(lo:Nat)(S T:AS):Prop where
 h:∀id,lo<=id->id<S.nx->T.h.get id=S.h.get id
 nx:S.nx<=T.nx
theorem isSl_nils{z:Nat}:isSl z .ar=true:=by simp[isSl,eS]
theorem isSl_slice{z a b c d e f:Nat}{g:Option Nat}:isSl z (.slice a b c d e f g)=(decide (f=z)&&eS d g):=by simp[isSl,eS]
theorem capB_none{n:Nat}:eS n none=true:=by simp[eS]
theorem capB_some{n c:Nat}:eS n (some c)=decide (n<=c):=by simp[eS]
theorem isNil_nils:isNil .ar=true:=rfl
theorem Dj{a b c d e f:Nat}{g:Option Nat}:isNil (.slice a b c d e f g)=false:=rfl
theorem sLen_nils:sLen .ar=0:=rfl
theorem iI{a b c d e f:Nat}{g:Option Nat}:sLen (.slice a b c d e f g)=d:=rfl
theorem Bq:cellsOf .kI=some [.kI]:=rfl
theorem Bp:cellsOf .jb=some [.jb]:=rfl
theorem Ed{i:Nat}:cellsOf (.map i)=some [.map i]:=rfl
theorem Br{f:Fn}{a b:List AV}:cellsOf (.func f a b)=some [.func f a b]:=rfl
theorem Sl.cells{S:AS}{v:AV}{sz:Nat}{cs:List AV}(h:Sl S v sz cs):cellsOf v=some [v]:=by rcases h.cases with rfl|⟨_,_,_,_,_,_,rfl⟩<;>rfl
attribute [simp] freshV_map intOf_int aop_conv uI bound_none gQ c7 natOf_zero natOf_one DJ capB_none capB_some Bq Bp Ed Br okV_pAt isSl_nils isSl_slice isNil_nils Dj sLen_nils iI rowsW_nil rowsW_p rowsW_r rowsW_f rowsW_e wontP_app wontR_app wontF_app wontE_app Fl stepV_run Fk Ch Fq stepA_run Fp Cl freP_some valP_val aopIs_val reP_free reP_run reP_skip reP_undef
 okN_zero okN_back okN_keep liveN_zero liveN_succ decL_one decL_more ry CF CG FF CE qg comL pI comA se j9 okW_slice okW_ptr okW_int okW_bool okW_str okW_nils okW_nilp okW_map okW_nilm okW_niface okW_agg okW_tuple okW_func oK fQ
 len_sl BD xW idxOf_int inA_int eq_nilp ne_nilp eq_nilp0 ne_nilp0 nilCk_ptr nilCk_func nilCk_map tO eq_nil ne_nil aB oB
end Go.Am
end
