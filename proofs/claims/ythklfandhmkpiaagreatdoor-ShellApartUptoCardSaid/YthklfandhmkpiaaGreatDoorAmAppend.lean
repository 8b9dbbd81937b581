/-
  The abstract machine against the model: append and copy.
-/
import Derived.Test.YthklfandhmkpiaaGreatDoorAmAgg
import Derived.Laws.Append
open Option.some renaming injEq->zza
open Go.Result renaming andThen_ok->zzb
open Nat renaming mul_le_mul_right->zzc,add_mul->zze,le_refl->zzf
open Go.Sem renaming run_bind->zzd
open List renaming getElem?_append_left->zzg,take_of_length_le->zzi,mem_of_getElem?->zzj,length_append->zzk,getElem?_append_right->zzl,getElem?_eq_getElem->zzm,getElem?_cons_zero->zzn,getElem?_cons_succ->zzo
open Bool renaming and_eq_true->zzh
namespace Go.Am
open Go
variable{Λ:LB}
def pR(Λ:LB)(P:Program)(ρ:bf)(S:AS)(w:World)(s:Sem Value)(v:AV)(S':AS):Prop:=
 ∃x ρ' w',s.run P w=.ok x w'/\aq ρ' v x/\R Λ ρ' S' w'/\Kp ρ S w ρ' S' w'
theorem lR{P:Program}{ρ:bf}{S:AS}{w:World}(hR:R Λ ρ S w){sz n:Nat}{x:AV}{x':Value}{new:List AV}(h:taken S sz x=some (n,new))(hx:aq ρ x x'):
  (Builtin.lenOf x').run P w=.ok n w/\new.length=n*sz/\∀m,m<=n->∃arr:Array Value,(Builtin.firstCells sz m x').run P w=.ok arr w/\Cells ρ (new.take (m*sz)) arr.toList:=by
 unfold taken at h;cases x<;>simp only[reduceCtorEq]at h
 case str s=>
  simp only[bC]at h;by_cases hz:sz=1
  .subst hz;rw[decide_eq_true rfl]at h;simp only[cond_true,zza,Prod.mk.injEq]at h;obtain⟨rfl,rfl⟩:=h;simp only[aq]at hx;obtain⟨b,rfl,hb⟩:=hx;refine⟨by simp[Builtin.lenOf,lU hb],by simp[fZ],fun m hm=>⟨((b.extract 0 m).data.map fun c=>Value.int .u8 c.toNat),by simp[Builtin.firstCells],?_,?_⟩⟩
   .rw[fZ,<-hb,List.map_map,Array.toList_map,ByteArray.data_extract,Array.toList_extract,List.extract_eq_take_drop];simp only[List.drop_zero,Nat.sub_zero,Nat.mul_one,<-List.map_take];exact aD.map (ρ:=ρ) _ _ (fun c=>by simp only[Function.comp,aq];rfl) _
   .intro v hv;rw[Array.toList_map]at hv;obtain⟨c,_,rfl⟩:=List.mem_map.1 hv;rfl
  .rw[decide_eq_false hz]at h;cases h
 case ar=>
  simp only[zza,Prod.mk.injEq]at h;obtain⟨rfl,rfl⟩:=h;simp only[aq]at hx;subst hx;exact⟨rfl,by simp,fun m hm=>⟨#[],rfl,by simp;exact⟨aD.nil,fun x hx=>by cases hx⟩⟩⟩
 case slice id g off len aM z cap=>
  simp only[bC]at h;by_cases hz:z=sz
  .subst hz;rw[decide_eq_true rfl]at h;simp only[cond_true]at h;have hx0:=hx;obtain⟨ad,c,rfl,_,_⟩:=fX hx;simp only[aq]at hx;obtain⟨pl,c',p1,p2,p3,p4,p5,hh⟩:=hx;cases len with
   |zero=>
    simp only[zza,Prod.mk.injEq]at h;obtain⟨rfl,rfl⟩:=h;refine⟨rfl,by simp,fun m hm=>?_⟩;obtain rfl:m=0:=by omega
    exact⟨#[],by simp[Builtin.firstCells,loadCells,loadCellsFrom],by simp;exact⟨aD.nil,fun x hx=>by cases hx⟩⟩
   |succ len=>
    simp only[Nat.mul_eq]at h;cases hr:rd S id g off ((len+1)*z) aM with
    |none=>simp[hr]at h
    |some l=>
     simp only[hr,zza,Prod.mk.injEq]at h;obtain⟨rfl,rfl⟩:=h;have hl:l.length=(len+1)*z:=by
      obtain⟨_,_,_,_,_,h5,_⟩:=jd (P:=P) hR hr p1 p2;exact h5
     refine⟨rfl,hl,fun m hm=>?_⟩;have hmz:m*z<=(len+1)*z:=zzc _ hm;have ij:rd S id g off (m*z) aM=some (l.take (m*z)):=by
      unfold rd at hr⊢;cases hg:S.h.get id with
      |none=>simp[hg]at hr
      |some o=>
       cases o with
       |map es c=>simp[hg]at hr
       |nR x=>simp[hg]at hr
       |row cells low top frz ty=>
        simp only[hg,cG,cK,cY,Nat.add_eq]at hr⊢;cases hc:(decide (low<=g)&&decide (g<=top)&&decide (off+(len+1)*z<=aM))with
        |false=>simp only[hc,cond_false,reduceCtorEq]at hr
        |true=>
         simp only[hc,cond_true,zza]at hr;simp only[zzh,decide_eq_true_eq]at hc;have h3:off+(len+1)*z<=aM:=hc.2;rw[decide_eq_true hc.1.1,decide_eq_true hc.1.2,decide_eq_true (by omega:off+m*z<=aM)];simp only[Bool.and_true,cond_true,zza];rw[<-hr,List.take_take];congr 1;show m*z=min (m*z) ((len+1)*z);omega
     obtain⟨arr,q1,q2,q3,q4,q5,_⟩:=jd (P:=P) hR ij p1 p2;rcases hh with⟨e,_⟩|⟨e1,_⟩
     .cases e;exact⟨arr,by simp[Builtin.firstCells,q1],q3,q4⟩
     .omega
  .rw[decide_eq_false hz]at h;cases h
theorem iz.drawn{o:Obj}{w:World}(k:Nat):iz o w {w with drawn:=k,heap:=w.heap.push o}:=⟨⟨rfl,rfl,rfl⟩,rfl⟩
theorem tX(z:Array Value)(n:Nat):(Builtin.zeroCells z n).size=n*z.size:=by simp[Builtin.zeroCells]
theorem not_int{du:TypeDesc}(h:∀k,du≠.int k):(match du with | .int _=>true|_=>false)=false:=by
 cases du<;>first|rfl|exact absurd rfl (h _)
theorem ones_zc{z:Array Value}(h:∀v,v∈z.toList->v.oneCell'=true)(n:Nat):eu (Builtin.zeroCells z n):=by
 intro i v hv;unfold Builtin.zeroCells at hv;simp only[Array.getElem?_map,Option.map_eq_some_iff]at hv;obtain⟨j,_,rfl⟩:=hv;rcases Nat.lt_or_ge (j%z.size) z.size with hj|hj
 .rw[getElem!_pos z _ hj];exact h _ (by simp)
 .rw[getElem!_neg z _ (by omega)];rfl
theorem eu.append{a b:Array Value}(h:eu a)(k:eu b):eu (a++b):=by
 intro i v hv;rw[Array.getElem?_append]at hv;split at hv
 .exact h i v hv
 .exact k _ v hv
theorem DG{P:Program}{cx:Cx}(aI:cU Λ P cx){ts:Array TypeId}{t u ty e:TypeId}{sz bs sLen sCap n:Nat}{base:Option Addr}{x':Value}{old new:Array Value}{du:TypeDesc}{w:World}
  (AO:ts[0]?=some t) (AN:ts[1]?=some u) (hu:bJ cx t=some (.slice e)) (qd:bJ cx u=some du) (hnu:∀k,du≠.int k) (hs:aH cx e=some sz) (hb:bytesOf cx e=some bs) (hz:jq cx e sz=true)
  (hlen:(Builtin.lenOf x').run P w=.ok n w) (EZ:¬sLen+n<=sCap) (hf:fits (sLen+n) bs=true)
  (hold:∀k,(Builtin.firstCells sz sLen (.slice base sLen sCap)).run P {w with drawn:=k}=.ok old {w with drawn:=k})
  (vF:∀k,(Builtin.firstCells sz n x').run P {w with drawn:=k}=.ok new {w with drawn:=k})
  (ho:old.size=sLen*sz) (hn:new.size=n*sz) :
  ∃(rest:Array Value)(c:Nat)(w':World),(Builtin.append_ ts ty #[.slice base sLen sCap,x']).run P w=.ok (.slice (some ⟨w.heap.size,0,none⟩) (sLen+n) c) w' /\
   iz (.cells (old++new++rest) e) w w'/\sLen+n<=c/\(old++new++rest).size=c*sz/\eu rest:=by
 simp only[fits,cG,zzh,decide_eq_true_eq]at hf;obtain⟨hf1,hf2⟩:=hf;have hf2':(sLen+n)*bs<=140737488355328:=hf2;unfold jq at hz;cases su:zeroOf cx e with
 |none=>simp[su]at hz
 |some z=>
  simp only[su]at hz;cases ET:cellsOf z with
  |none=>simp[ET]at hz
  |some zl=>
   simp only[ET,bC,bL,decide_eq_true_eq]at hz;obtain⟨zv,zr,pS⟩:=iV aI su;have hzcl:=(dX ET (pS (fun _ _=>none))).length;have uf:zv.cells.size=sz:=by simpa using hzcl.symm.trans hz
   have zd:∀w,(typeInfo e).run P w=.ok ((cx.jU.get e).getD default) w/\((cx.jU.get e).getD default).bytes=bs:=by
    intro w;unfold bytesOf at hb;cases hi:cx.jU.get e with
    |none=>simp[hi]at hb
    |some i=>simp only[hi,zza]at hb;exact⟨oe aI hi w,hb⟩
   let q:Question:=.appendCap (sLen+n) sCap e
   let c:=q.cut (w.tape w.drawn q)
   have hc:c=sLen+n+w.tape w.drawn q%(2 ^ 63-(sLen+n)):=rfl;have BP:sLen+n<=c:=by rw[hc];exact Nat.le_add_right _ _
   have xg:¬(((sLen+n:Nat):Int) > IntKind.i64.max/\(False\/((cx.jU.get e).getD default).bytes=0)):=by
    rintro⟨h1,_⟩;have:IntKind.i64.max=9223372036854775807:=rfl;rw[this]at h1;omega
   have mn:¬(Builtin.nextslicecap (sLen+n) sCap*((cx.jU.get e).getD default).bytes > 2 ^ 48):=by
    rw[(zd w).2];have:=growslice_fits (old:=sCap) (bytes:=bs) (by omega:sCap<sLen+n) hf2';have e48:(2:Nat) ^ 48=281474976710656:=by decide
    rw[e48];omega
   refine⟨Builtin.zeroCells zv.cells (c-(sLen+n)),c,{w with drawn:=w.drawn+1,heap:=w.heap.push (.cells (old++new++Builtin.zeroCells zv.cells (c-(sLen+n))) e)},?_,iz.drawn _,BP,?_,ones_zc (dX ET (pS (fun _ _=>none))).2 _⟩
   .have hd0:∀w,(underlying u).run P w=.ok du w:=fun w=>aP aI qd w;have hch:(choose (.appendCap (sLen+n) sCap e)).run P w=.ok c {w with drawn:=w.drawn+1}:=by
     rw[run_choose];rfl
    have h1:=hold (w.drawn+1);have h2:=vF (w.drawn+1);have hi1:∀w,(typeInfo e).run P w=.ok ((cx.jU.get e).getD default) w:=fun w=>(zd w).1;have hmt:=not_int hnu;unfold Builtin.append_;simp only[AO,AN,List.getElem?_toArray,zzn,zzo,zzd,aP aI hu,ef aI hs,zzb,hd0,Sem.run_pure];simp only[Bool.false_eq_true,if_false,hlen,zzd,zzb,if_neg EZ,hi1];rw[if_neg xg];simp only[zzd,hi1,zzb];rw[if_neg mn];simp only[zzd,hi1,zzb,hch,run_askRoom,h1,h2,Bool.not_false,if_true,zr,Sem.run_pure,Go.newRow,run_newObj]
   .simp only[Array.size_append,tX,uf,ho,hn];rw[<-zze,<-zze];congr 1;omega
theorem Cells.mono{ρ ρ':bf}(h:Ext ρ ρ'){cs:List AV}{l:List Value}(hc:Cells ρ cs l):Cells ρ' cs l:=⟨hc.1.mono h,hc.2⟩
theorem sE{ρ:bf}{S:AS}{w w':World}{e:TypeId}{cells:List AV}{C:Array Value}{need c sz:Nat}(hR:R Λ ρ S w)(hg:iz (.cells C e) w w')
  (hl:Cells ρ cells (C.toList.take cells.length)) (hlen:cells.length=need*sz) (hC:C.size=c*sz) (hnc:need<=c) (nf:0<sz) (rj:eu C) :
  ∃ρ',aq ρ' (grown S e need sz cells).1 (.slice (some ⟨w.heap.size,0,none⟩) need c)/\R Λ ρ' (grown S e need sz cells).2 w'/\Kp ρ S w ρ' (grown S e need sz cells).2 w':=by
 have hle:need*sz<=c*sz:=zzc _ hnc;obtain⟨ρ',pl,p1,p2,p3,p4,p5,p6,p7⟩:=hR.newRow hg hl.1 (by omega) rj;refine⟨ρ',?_,p6,p7⟩;refine aq.fK pl c p1 ?_ ?_ nf hnc (.inl ⟨by rw[p2,p3],by rw[p3,p5,hC];omega,fun k hk=>by cases hk⟩)
 .show need*sz<=pl.n;rw[p4,hlen];exact zzf _
 .show 0+need*sz<=need*sz;omega
theorem vg{ρ ρ':bf}{w':World}{id top z len k:Nat}{old new:List AV}{dT:Pl}{C':Array Value}{e:TypeId}{fr:Nat×Nat}(hp:ρ' id top=some dT)(hx:Ext ρ ρ')
  (hw:w'.heap[dT.b]?=some (.cells C' e fr)) (hN:C'.size=dT.N) (hn:dT.n=(len+k)*z) (hol:old.length=len*z) (hnl:new.length=k*z)
  (hfz:∀i,i<=dT.N->A3 fr i=false)
  (ho:∀i,i<len*z->∃x v,old[i]?=some x/\C'[dT.base+i]?=some v/\aq ρ x v/\v.oneCell'=true)
  (hw2:∀i,i<k*z->∃x v,new[i]?=some x/\C'[dT.base+(len*z+i)]?=some v/\aq ρ x v/\v.oneCell'=true)
  (h0:top≠0) (rj:eu C'):xZ ρ' w' (old++new) top false e id top:=by
 have hlen:(old++new).length=(len+k)*z:=by rw[zzk,hol,hnl,zze]
 refine⟨dT,C',fr,hp,hw,hN,dT.le,by rw[hn,hlen];exact zzf _,fun i hi=>?_,fun _=>by rw[hn,hlen],fun _=>hfz,fun e0=>absurd e0 h0,fun _=>rj⟩;rw[hn,zze]at hi;by_cases h:i<len*z
 .obtain⟨x,v,a1,a2,a3,a4⟩:=ho i h;exact⟨x,v,by rw[zzg (by omega)];exact a1,a2,a3.mono hx _ _,a4⟩
 .obtain⟨x,v,a1,a2,a3,a4⟩:=hw2 (i-len*z) (by omega);refine⟨x,v,by rw[zzl (by omega),hol];exact a1,?_,a3.mono hx _ _,a4⟩;have:len*z+(i-len*z)=i:=by omega
  rw[this]at a2;exact a2
theorem rN{P:Program}{ρ:bf}{S:AS}{w:World}(hR:R Λ ρ S w){sz n:Nat}{x:AV}{x':Value}{new:List AV}(h:taken S sz x=some (n,new))(hx:aq ρ x x'):
  ∃arr:Array Value,(∀k,(Builtin.firstCells sz n x').run P {w with drawn:=k}=.ok arr {w with drawn:=k})/\Cells ρ new arr.toList/\arr.size=n*sz:=by
 obtain⟨_,hl,h0⟩:=lR (P:=P) hR h hx;obtain⟨arr,r1,r2⟩:=h0 n (zzf _);have e:new.take (n*sz)=new:=zzi (by omega);rw[e]at r2;refine⟨arr,fun k=>?_,r2,by have:=r2.length;simp at this;omega⟩;obtain⟨_,_,h1⟩:=lR (P:=P) (hR.drawn k) h hx;obtain⟨arr',q1,q2⟩:=h1 n (zzf _);have:arr'=arr:=by
  have key:∀(y:Value)(w:World)(k:Nat)(a b:Array Value),(Builtin.firstCells sz n y).run P w=.ok a w->(Builtin.firstCells sz n y).run P {w with drawn:=k}=.ok b {w with drawn:=k}->b=a:=by
   intro y w k a b ha hb;cases y<;>simp only[Builtin.firstCells]at ha hb<;>(try (cases ha;done))
   case string s=>cases ha;cases hb;rfl
   case slice ad l c=>
    cases ad with
    |none=>cases ha;cases hb;rfl
    |some ad=>
     simp only at ha hb;have:∀(m i:Nat)(acc:Array Value)(a b:Array Value),(loadCellsFrom ad i m acc).run P w=.ok a w->(loadCellsFrom ad i m acc).run P {w with drawn:=k}=.ok b {w with drawn:=k}->b=a:=by
      intro m
      induction m with
      |zero=>intro i acc a b ha hb;cases ha;cases hb;rfl
      |succ m ih=>
       intro i acc a b ha hb;simp only[loadCellsFrom,zzd,run_load]at ha hb;have hc:({w with drawn:=k}:World).cell? (ad.add i)=w.cell? (ad.add i):=rfl;rw[hc]at hb;cases pN:w.cell? (ad.add i)with
       |some u=>rw[pN]at ha hb;exact ih _ _ _ _ ha hb
       |none=>
        rw[pN]at ha hb;have hfar:({w with drawn:=k}:World).farLoad P (ad.add i) false=w.farLoad P (ad.add i) false:=by
         simp only[World.farLoad,World.viewLoad,World.seen,World.noCell]
        have hm:((Mode.plain==Mode.atomic):Bool)=false:=rfl;rw[hm]at ha hb;rw[hfar]at hb;cases sy:w.farLoad P (ad.add i) false with
        |ok r=>rw[sy]at ha hb;exact ih _ _ _ _ ha hb
        |error e=>rw[sy]at ha;cases ha
     exact this _ 0 #[] a b ha hb
  exact key x' w k arr arr' r1 q1
 rw[this]at q1;exact q1
theorem Ew{P:Program}{cx:Cx}(aI:cU Λ P cx){ρ:bf}{S S':AS}{w:World}(hR:R Λ ρ S w){ts:Array TypeId}{t u ty e:TypeId}{sz bs:Nat}{s x v:AV}{s' x':Value}{du:TypeDesc}
  (h:gg S e sz bs s x=some (v,S')) (AO:ts[0]?=some t) (AN:ts[1]?=some u) (hu:bJ cx t=some (.slice e)) (qd:bJ cx u=some du) (hnu:∀k,du≠.int k)
  (hs:aH cx e=some sz) (nf:0<sz) (hb:bytesOf cx e=some bs) (hz:jq cx e sz=true) (hsr:aq ρ s s') (hxr:aq ρ x x') :
  pR Λ P ρ S w (Builtin.append_ ts ty #[s',x']) v S':=by
 unfold gg at h;cases ht:taken S sz x with
 |none=>simp[ht]at h
 |some nn=>
  obtain⟨n,new⟩:=nn;simp only[ht]at h;obtain⟨hlen,hnl,hfc⟩:=lR (P:=P) hR ht hxr;have hd0:∀w,(underlying u).run P w=.ok du w:=fun w=>aP aI qd w;have hmt:=not_int hnu;have ud:∀(base:Option Addr)(sLen sCap:Nat)(w':World)(arr:Array Value),sLen+n<=sCap->(Builtin.firstCells sz n x').run P w=.ok arr w ->
    (match base with|some a=>(storeCells (a.add (sLen*sz)) arr.toList).run P w=.ok () w'|none=>w'=w) ->
    (Builtin.append_ ts ty #[.slice base sLen sCap,x']).run P w=.ok (.slice base (sLen+n) sCap) w':=by
   intro base sLen sCap w' arr hle hf jJ;unfold Builtin.append_;simp only[AO,AN,List.getElem?_toArray,zzn,zzo,zzd,aP aI hu,ef aI hs,zzb,hd0,Sem.run_pure];simp only[Bool.false_eq_true,if_false,hlen,zzd,zzb,if_pos hle,Bool.not_false,if_true,hf];cases base with
   |none=>simp only[]at jJ;subst jJ;rfl
   |some a=>simp only[]at jJ;simp only[zzd,jJ,zzb];rfl
  obtain⟨arr,hf,fG,hasz⟩:=rN (P:=P) hR ht hxr;have hf0:(Builtin.firstCells sz n x').run P w=.ok arr w:=hf w.drawn;cases n with
  |zero=>
   have harr0:arr.toList=[]:=by
    have:arr.size=0:=by omega
    exact List.eq_nil_of_length_eq_zero (by simpa using this)
   cases s<;>simp only[reduceCtorEq]at h
   case ar=>
    cases h;simp only[aq]at hsr;subst hsr;exact⟨_,ρ,w,ud none 0 0 w arr (by omega) hf0 rfl,by simp[aq],hR,Kp.refl _ _ _⟩
   case slice id g off len aM z cap=>
    simp only[bC]at h;by_cases su:z=sz
    .rw[decide_eq_true su]at h;cases h;obtain⟨ad,c,rfl,hlc,_⟩:=fX hsr;refine⟨_,ρ,w,ud (some ad) len c w arr (by omega) hf0 ?_,hsr,hR,Kp.refl _ _ _⟩;simp only[harr0];rfl
    .rw[decide_eq_false su]at h;cases h
  |succ m=>
   have vF:new.length=(m+1)*sz:=hnl;cases s<;>simp only[reduceCtorEq]at h
   case ar=>
    simp only[aq]at hsr;subst hsr;cases vG:fits (m+1) bs with
    |false=>simp[vG]at h
    |true=>
     simp only[vG,cond_true,zza]at h;obtain⟨rest,c,w',r1,r2,r3,r4,r6⟩:=DG (P:=P) aI (ts:=ts) (ty:=ty) (sLen:=0) (sCap:=0) (base:=none) (old:=#[]) (new:=arr) AO AN hu qd hnu hs hb hz hlen (by omega) (by simpa using vG)
      (fun k=>rfl) hf (by simp) hasz
     simp only[Nat.zero_add]at r1 r3;obtain⟨ρ',q1,q2,q3⟩:=sE hR r2 (cells:=new) (need:=m+1) (c:=c) (sz:=sz) (by
      have e:(#[]++arr++rest).toList.take new.length=arr.toList:=by
       have:=fG.length;simp[this]
      rw[e];exact fG) vF r4 r3 nf (((eu.of (fun v hv=>by cases hv)).append (eu.of fG.2)).append r6)
     rw[h]at q1 q2 q3;exact⟨_,ρ',w',r1,q1,q2,q3⟩
   case slice id g off len aM z cap=>
    simp only[bC]at h;by_cases su:z=sz
    .subst su;rw[decide_eq_true rfl]at h;simp only[cond_true]at h;cases kV:S.h.get id with
     |none=>simp[kV]at h
     |some ob=>
      cases ob with
      |map es c=>simp[kV]at h
      |nR x=>simp[kV]at h
      |row cells low top frz Cy=>
       simp only[kV,cG,aQ,Nat.add_eq,Nat.mul_eq]at h;cases hlv:(decide (low<=g)&&decide (g<=top))with
       |false=>simp[hlv]at h
       |true=>
        simp only[hlv,cond_true]at h;simp only[zzh,decide_eq_true_eq]at hlv;cases vG:fits (len+(m+1)) bs with
        |false=>simp[vG]at h
        |true=>
         simp only[vG,cond_true]at h;have qe:=yx hsr;have hold:taken S z (.slice id g off len aM z cap)=some (len,(cells.drop off).take (len*z)):=by
          unfold taken;simp only[bC];cases len with
          |zero=>simp
          |succ l=>
           have:rd S id g off ((l+1)*z) aM=some ((cells.drop off).take ((l+1)*z)):=by
            unfold rd;simp only[kV,cG,cK,cY,Nat.add_eq];rw[decide_eq_true hlv.1,decide_eq_true hlv.2,decide_eq_true qe];rfl
           show (match rd S id g off ((l+1)*z) aM with|some l'=>some (l+1,l')|none=>none)=_;rw[this]
         obtain⟨pw,ho,hoarr,hosz⟩:=rN (P:=P) hR hold hsr;have hol:=hoarr.length;have hnl':=fG.length;obtain⟨ad,c,rfl,hlc,mn⟩:=fX hsr;have growing:¬len+(m+1)<=c->∃rest c' w',(Builtin.append_ ts ty #[.slice (some ad) len c,x']).run P w=.ok (.slice (some ⟨w.heap.size,0,none⟩) (len+(m+1)) c') w' /\
           iz (.cells (pw++arr++rest) e) w w'/\len+(m+1)<=c'/\(pw++arr++rest).size=c'*z /\
           Cells ρ ((cells.drop off).take (len*z)++new) ((pw++arr++rest).toList.take ((cells.drop off).take (len*z)++new).length)/\eu (pw++arr++rest):=by
          intro EZ;obtain⟨rest,c',w',r1,r2,r3,r4,r6⟩:=DG (P:=P) aI (ts:=ts) (ty:=ty) (sLen:=len) (sCap:=c) (base:=some ad) (old:=pw) (new:=arr) AO AN hu qd hnu hs hb hz hlen EZ vG ho hf hosz hasz;refine⟨rest,c',w',r1,r2,r3,r4,?_,((eu.of hoarr.2).append (eu.of fG.2)).append r6⟩;have e:(pw++arr++rest).toList.take ((cells.drop off).take (len*z)++new).length=pw.toList++arr.toList:=by
           rw[zzk,hol,hnl'];simp only[Array.toList_append];rw[List.take_append_of_le_length (by simp),zzi (by simp)]
          rw[e];exact hoarr.append fG
         have Av:((cells.drop off).take (len*z)).length=len*z:=by rw[hol];simpa using hosz
         have nlen:((cells.drop off).take (len*z)++new).length=(len+(m+1))*z:=by
          rw[zzk,Av,vF,<-zze]
         cases cap with
         |some k=>
          obtain rfl:=mn k rfl;simp only[]at h;by_cases hle:len+(m+1)<=c
          .rw[decide_eq_true hle]at h;simp only[cond_true]at h;cases Dp:wr S id g (off+len*z) aM new with
           |none=>simp[Dp]at h
           |some S1=>
            simp only[Dp,zza,Prod.mk.injEq]at h;obtain⟨rfl,rfl⟩:=h;have Dr:=hsr;simp only[aq]at Dr;obtain⟨pl,c',p1,p2,p3,p4,p5,hh⟩:=Dr;rcases hh with⟨he,q1,q2⟩|⟨e1,e2,e3,a',he⟩
            .cases he;obtain⟨w',r1,r2,r3⟩:=rO (P:=P) hR Dp p1 p2 fG.1 fG.2;have vD:=(q2 c rfl).2;refine⟨_,ρ,w',ud _ len c w' arr hle hf0 ?_,?_,r2,r3⟩
             .simp only[];rw[fw,Nat.add_assoc];exact r1
             .have hm:(len+(m+1))*z<=c*z:=zzc _ hle;exact aq.fK pl c p1 p2 (by omega) p4 hle (.inl ⟨rfl,q1,q2⟩)
            .cases he;omega
          .rw[decide_eq_false hle]at h;simp only[cond_false,zza,cK,cY,cA]at h;obtain⟨rest,c',w',r1,r2,r3,r4,r5,r6⟩:=growing hle;obtain⟨ρ',q1,q2,q3⟩:=sE hR r2 (need:=len+(m+1)) r5 nlen r4 r3 nf r6;rw[h]at q1 q2 q3;exact⟨_,ρ',w',r1,q1,q2,q3⟩
         |none=>
          simp only[]at h;cases hfe:(frz || !decide (Cy=e))with
          |true=>rw[hfe]at h;cases h
          |false=>
           rw[hfe]at h;obtain⟨hfe1,hfe2⟩:frz=false/\Cy=e:=by simpa using hfe
           subst hfe1 hfe2;simp only[cond_false,cK,cY,cA,bL]at h;have hRo:=hR.ja id _ kV;obtain⟨cR,hgs,hsb⟩:=hRo;have Dr:=hsr;simp only[aq]at Dr;obtain⟨pl,c',p1,p2,p3,p4,p5,hh⟩:=Dr;obtain⟨plg,C,fr,g1,g2,g3,g4,g5,g6,g7,g8,_,g10⟩:=hgs g hlv.1 hlv.2;rw[p1]at g1;cases g1;have hC1:∀(C':Array Value){o z0:Nat},(∀j,C'[j]?=if o+z0<=j/\j<o+z0+arr.toList.length then arr.toList[j-(o+z0)]? else C[j]?)->eu C':=by
            intro C' o z0 hj i v hv;rw[hj i]at hv;split at hv
            .exact fG.2 v (zzj hv)
            .exact g10 rfl i v hv
           have key:∃(dT:Pl)(w':World)(cc:Nat),(Builtin.append_ ts ty #[.slice (some ad) len c,x']).run P w=.ok (.slice (some ⟨dT.b,dT.base,none⟩) (len+(m+1)) cc) w' /\
             Outer w w'/\w.heap.size<=w'.heap.size/\(∀k,k<w.heap.size->k≠dT.b->w'.heap[k]?=w.heap[k]?)/\dT.b<w'.heap.size/\dT.n=(len+(m+1))*z/\len+(m+1)<=cc/\dT.base+cc*z<=dT.N /\
             ((dT.b=pl.b/\dT.base=pl.base+off/\∃C' ,w'.heap[pl.b]?=some (.cells C' Cy fr)/\C'.size=C.size/\eu C'/\∀j,j<pl.base+off+len*z->C'[j]?=C[j]?)\/(w.heap.size=dT.b)) /\
             xZ (put ρ id (top+1) dT) w' ((cells.drop off).take (len*z)++new) (top+1) false Cy id (top+1):=by
            by_cases hfitc:len+(m+1)<=c
            .rcases hh with⟨he,q1,q2⟩|⟨e1,e2,e3,a',he⟩
             .cases he;have hcz:(len+(m+1))*z<=c*z:=zzc _ hfitc;have hsplit:(len+(m+1))*z=len*z+(m+1)*z:=zze _ _ _;obtain⟨w',C',r1,r2,r3,r4,r5⟩:=jY (P:=P) pl.b Cy fr arr.toList (pl.base+off+len*z) 0 C w g2 (by simp only[Array.length_toList,hasz];omega) fG.2 (by rw[g3];exact fun i hi=>g8 rfl i (Nat.le_of_lt hi));have hle':pl.base+off+(len+(m+1))*z<=pl.N:=by omega
              refine⟨⟨pl.b,pl.base+off,(len+(m+1))*z,pl.N,hle'⟩,w',c,?_,r2.toOuter,Nat.le_of_eq r2.size.symm,fun k _ hk=>r2.same k hk,?_,rfl,hfitc,q1,.inl ⟨rfl,rfl,C',r3,r4,hC1 C' r5,fun j hj=>?_⟩,?_⟩
              .refine ud _ len c w' arr hfitc hf0 ?_;simp only[];rw[fw];exact r1
              .show pl.b<w'.heap.size;rw[r2.size];exact hR.lt id _ g pl kV p1
              .rw[r5 j,if_neg (by omega)]
              .refine vg (ρ:=ρ) (bV _ _ _ _) (fY _ (hR.pW id _ _ _ _ _ kV _ (by omega))) r3 (r4.trans g3) rfl Av vF (g8 rfl) (fun i hi=>?_) (fun i hi=>?_) (by omega) (hC1 C' r5)
               .obtain⟨x0,v0,a1,a2,a3,a4⟩:=g6 (off+i) (by omega);refine⟨x0,v0,by rw[AE,if_pos hi];exact a1,?_,a3,a4⟩;show C'[pl.base+off+i]?=_;rw[r5,if_neg (by omega),Nat.add_assoc];exact a2
               .obtain⟨x0,hx0⟩:∃x0,new[i]?=some x0:=⟨new[i]'(by omega),by rw[zzm (by omega)]⟩
                obtain⟨v0,hv0,hrel⟩:=fG.1.get hx0;refine⟨x0,v0,hx0,?_,hrel,fG.2 v0 (zzj hv0)⟩;show C'[pl.base+off+(len*z+i)]?=_;rw[r5,if_pos (by simp only[Array.length_toList,hasz];omega)];have:pl.base+off+(len*z+i)-(pl.base+off+len*z+0)=i:=by omega
                rw[this];exact hv0
             .cases he;omega
            .obtain⟨rest,cc,w',r1,r2,r3,r4,r5,r6⟩:=growing hfitc;have hcz:(len+(m+1))*z<=cc*z:=zzc _ r3;refine⟨⟨w.heap.size,0,(len+(m+1))*z,cc*z,by omega⟩,w',cc,r1,r2.toOuter,by rw[r2.size];omega,fun k hk _=>r2.old k hk,by rw[r2.size];exact Nat.lt_succ_self _,rfl,r3,by show 0+cc*z<=cc*z;omega,.inr rfl,?_⟩;have hpt:∀i,i<(len+(m+1))*z->∃x v,((cells.drop off).take (len*z)++new)[i]?=some x/\(pw++arr++rest)[i]?=some v/\aq ρ x v/\v.oneCell'=true:=by
              intro i hi;obtain⟨x0,hx0⟩:∃x0,((cells.drop off).take (len*z)++new)[i]?=some x0:=⟨_,zzm (by omega)⟩
              obtain⟨v0,hv0,hrel⟩:=r5.1.get hx0;rw[List.getElem?_take,if_pos (by omega)]at hv0;refine⟨x0,v0,hx0,by rw[<-Array.getElem?_toList];exact hv0,hrel,r5.2 v0 ?_⟩;exact zzj (i:=i) (by rw[List.getElem?_take,if_pos (by omega)];exact hv0)
             refine vg (ρ:=ρ) (bV _ _ _ _) (fY _ (hR.pW id _ _ _ _ _ kV _ (by omega))) r2.at r4 rfl Av vF (fun i _=>by simp[A3]) (fun i hi=>?_) (fun i hi=>?_) (by omega) r6
             .obtain⟨x0,v0,a1,a2,a3,a4⟩:=hpt i (by rw[zze];omega);refine⟨x0,v0,?_,by show (pw++arr++rest)[0+i]?=_;rw[Nat.zero_add];exact a2,a3,a4⟩;rw[zzg (by omega)]at a1;exact a1
             .obtain⟨x0,v0,a1,a2,a3,a4⟩:=hpt (len*z+i) (by rw[zze];omega);refine⟨x0,v0,?_,by show (pw++arr++rest)[0+(len*z+i)]?=_;rw[Nat.zero_add];exact a2,a3,a4⟩;rw[zzl (by omega),Av]at a1;have:len*z+i-len*z=i:=by omega
              rw[this]at a1;exact a1
           obtain⟨dT,w',cc,k1,k2,k3,k4,k5,k6,k7,k8,k9,k10⟩:=key;have oZ:(∃g pl0,ρ id g=some pl0/\pl0.b=dT.b)\/w.heap.size<=dT.b:=by
            rcases k9 with⟨e1,_⟩|e1
            .exact .inl ⟨g,pl,p1,e1.symm⟩
            .exact .inr (by omega)
           have hval:∀ρ',ρ' id (top+1)=some dT->aq ρ' (.slice id (top+1) 0 (len+(m+1)) ((len+(m+1))*z) z none) (.slice (some ⟨dT.b,dT.base,none⟩) (len+(m+1)) cc):=by
            intro ρ' hρ';exact aq.fK dT cc hρ' (by rw[k6];exact zzf _) (by omega) p4 k7 (.inl ⟨rfl,by omega,fun k hk=>by cases hk⟩)
           cases hc:(decide (off=0)&&decide (g=top)&&decide (cells.length=len*z))with
           |true=>
            simp only[hc,cond_true,zza,Prod.mk.injEq]at h;obtain⟨rfl,rfl⟩:=h;simp only[zzh,decide_eq_true_eq]at hc;obtain⟨⟨rfl,rfl⟩,sB⟩:=hc;have hce:(cells.drop 0).take (len*z)=cells:=by rw[List.drop_zero,zzi (by omega)]
            rw[hce]at k10;have hxx:=fY (ρ:=ρ) dT (hR.pW id _ _ _ _ _ kV _ (Nat.lt_succ_self g));have hold':∀h',low<=h'->h'<=g->xZ (put ρ id (g+1) dT) w' (cells++new) (g+1) false Cy id h':=by
             intro h' hl1 hl2;obtain⟨q,D,f1,d1,d2,d3,d4,d5,d6,d7,d8,d9⟩:=hgs h' hl1 hl2;have hqlt:=hR.lt id _ h' q kV d1;have fin:∀D' ,w'.heap[q.b]?=some (.cells D' Cy f1)->D'.size=D.size->(∀i,i<q.n->D'[q.base+i]?=D[q.base+i]?)->eu D'->xZ (put ρ id (g+1) dT) w' (cells++new) (g+1) false Cy id h':=by
              intro D' hD1 hD2 hD3 hD4;refine⟨q,D',f1,hxx _ _ _ d1,hD1,hD2.trans d3,d4,by simp;omega,fun i hi=>?_,fun he=>by omega,d8,d9.1,fun _=>hD4⟩;obtain⟨x0,v0,a1,a2,a3,a4⟩:=d6 i hi;exact⟨x0,v0,by rw[zzg (by omega)];exact a1,by rw[hD3 i hi];exact a2,a3.mono hxx _ _,a4⟩
             by_cases hqb:q.b=dT.b
             .rcases k9 with⟨e2,_,C',c1,c2,c4,c3⟩|e2
              .have hqp:q.b=pl.b:=hqb.trans e2;have hbase:=hsb h' g q pl hl1 hl2 hlv.1 hlv.2 d1 p1 hqp;rw[hqp]at d2;rw[d2]at g2;cases g2;exact fin C' (by rw[hqp];exact c1) c2 (fun i hi=>c3 _ (by omega)) c4
              .omega
             .exact fin D (by rw[k4 q.b hqlt hqb];exact d2) rfl (fun _ _=>rfl) (d9.2 rfl)
            obtain⟨q1,q2⟩:=hR.gen kV (pl:=dT) (low':=low) (zzf _) (by omega) k2 k3 k4 oZ k5 rfl k10 hold' (fun h' q hl1 hl2 hq hqb=>by
             rcases k9 with⟨e2,e3,_⟩|e2
             .have:=hsb h' g q pl hl1 hl2 hlv.1 hlv.2 hq p1 (hqb.trans e2);omega
             .have:=hR.lt id _ h' q kV hq;omega)
            exact⟨_,_,w',k1,hval _ (bV _ _ _ _),q1,q2⟩
           |false=>
            simp only[hc,cond_false,zza,Prod.mk.injEq]at h;obtain⟨rfl,rfl⟩:=h;obtain⟨q1,q2⟩:=hR.gen kV (pl:=dT) (low':=top+1) (by omega) (zzf _) k2 k3 k4 oZ k5 rfl k10 (fun g' h1 h2=>by omega) (fun g' q h1 h2=>by omega);exact⟨_,_,w',k1,hval _ (bV _ _ _ _),q1,q2⟩
    .rw[decide_eq_false su]at h;cases h
end Go.Am
