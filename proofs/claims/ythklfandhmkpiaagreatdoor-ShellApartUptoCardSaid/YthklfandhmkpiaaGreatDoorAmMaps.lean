/-
  The abstract machine against the model: copies, lengths, maps.
-/
import Derived.Test.YthklfandhmkpiaaGreatDoorAmFresh
open Go.Result renaming andThen_ok->zza
open Option.some renaming injEq->zzb
open Go.Sem renaming run_bind->zzc,run_pure->zzd
open Array renaming getElem?_toList->zze
open List renaming eq_nil_of_length_eq_zero->zzf,getElem?_append_right->zzg,getElem?_append_left->zzh,getElem?_cons_zero->zzi,getElem?_cons_succ->zzj
open Nat renaming min->zzk
set_option linter.unusedVariables false
set_option linter.unusedSimpArgs false
namespace Go.Am
open Go
variable{Λ:LB}
theorem copyV_run{P:Program}{cx:Cx}(aI:cU Λ P cx){ρ:bf}{S S':AS}{w:World}(hR:R Λ ρ S w){ts:Array TypeId}{t ty e:TypeId}{sz:Nat}{d x v:AV}{d' x':Value}
  (h:copyV S sz d x=some (v,S')) (AO:ts[0]?=some t) (hu:bJ cx t=some (.slice e)) (hs:aH cx e=some sz) (hd:aq ρ d d') (hx:aq ρ x x') :
  pR Λ P ρ S w (Builtin.copy_ ts ty #[d',x']) v S':=by
 unfold copyV at h;cases ht:taken S sz x with
 |none=>simp[ht]at h
 |some nn=>
  obtain⟨n,new⟩:=nn;obtain⟨hlen,hnl,hfc⟩:=lR (P:=P) hR ht hx;rw[ht]at h;cases d<;>simp only[reduceCtorEq]at h
  case ar=>
   simp only[zzb,Prod.mk.injEq]at h;obtain⟨rfl,rfl⟩:=h;simp only[aq]at hd;subst hd;obtain⟨arr,r1,r2⟩:=hfc 0 (Nat.zero_le _);refine⟨.int .i64 0,ρ,w,?_,by simp[aq],hR,Kp.refl _ _ _⟩;have hm:zzk n 0=0:=Nat.min_zero n;unfold Builtin.copy_;simp only[AO,List.getElem?_toArray,zzi,zzj,zzc,aP aI hu,zza,hlen,hm,ef aI hs,r1,zzd];rfl
  case slice id g off len aM z cap=>
   simp only[bC]at h;by_cases su:z=sz
   .subst su;rw[decide_eq_true rfl]at h;simp only[cond_true]at h;obtain⟨ad,c,rfl,hlc,mn⟩:=fX hd;obtain⟨arr,r1,r2⟩:=hfc (zzk n len) (Nat.min_le_left _ _);have run:∀w',(storeCells ad arr.toList).run P w=.ok () w'->(Builtin.copy_ ts ty #[.slice (some ad) len c,x']).run P w=.ok (goInt (zzk n len:Nat)) w':=by
     intro w' jJ;unfold Builtin.copy_;simp only[AO,List.getElem?_toArray,zzi,zzj,zzc,aP aI hu,zza,hlen,ef aI hs,r1,jJ,zzd]
    have harrl:=r2.length;have hmn:zzk n len<=n:=Nat.min_le_left _ _;have hml:zzk n len<=len:=Nat.min_le_right _ _;generalize hm:zzk n len=m at *;cases m with
    |zero=>
     simp only[zzb,Prod.mk.injEq]at h;obtain⟨rfl,rfl⟩:=h;have ha:arr.toList=[]:=by
      have:(new.take (0*z)).length=0:=by simp
      exact zzf (by omega)
     exact⟨_,ρ,w,run w (by rw[ha];rfl),by simp[aq,goInt],hR,Kp.refl _ _ _⟩
    |succ m=>
     simp only[Nat.mul_eq]at h;cases Dp:wr S id g off aM (takeN ((m+1)*z) new)with
     |none=>simp[Dp]at h
     |some S1=>
      simp only[Dp,zzb,Prod.mk.injEq]at h;obtain⟨rfl,rfl⟩:=h;simp only[aq]at hd;obtain⟨pl,c',p1,p2,p3,p4,p5,hh⟩:=hd;rcases hh with⟨he,_⟩|⟨e1,_⟩
      .cases he;rw[cK]at Dp;obtain⟨w',q1,q2,q3⟩:=rO (P:=P) hR Dp p1 p2 r2.1 r2.2;exact⟨_,ρ,w',run w' q1,by simp[aq,goInt],q2,q3⟩
      .omega
   .rw[decide_eq_false su]at h;cases h
theorem lenV_run{P:Program}{cx:Cx}(aI:cU Λ P cx){ρ:bf}{S:AS}{w:World}(hR:R Λ ρ S w){ts:Array TypeId}{t ty:TypeId}{x:AV}{x':Value}{n:Nat}{rest:Array Value}
  (h:lenV cx S t x=some n) (AO:ts[0]?=some t) (hr:rest[0]?=some x') (hx:aq ρ x x'):(Builtin.len_ ts ty rest).run P w=.ok (goInt n) w:=by
 unfold lenV at h;cases hu:bJ cx t with
 |none=>simp[hu]at h
 |some d=>
  have oy:=aP aI hu w;rw[hu]at h;unfold Builtin.len_;simp only[AO,hr];have hR':=hR;cases d with
  |string=>
   cases x<;>simp only[reduceCtorEq]at h;simp only[aq]at hx;obtain⟨b,rfl,hb⟩:=hx;simp only[zzb]at h;subst h;simp only[zzc,oy,zza,zzd,lU hb]
  |slice e=>
   cases x<;>simp only[reduceCtorEq]at h
   .simp only[aq]at hx;subst hx;simp only[zzb]at h;subst h;simp only[zzc,oy,zza,zzd]
   .obtain⟨a,c,rfl,_,_⟩:=fX hx;simp only[zzb]at h;subst h;simp only[zzc,oy,zza,zzd]
  |map k e=>
   cases x<;>simp only[reduceCtorEq]at h
   .simp only[aq]at hx;subst hx;simp only[zzb]at h;subst h;simp only[zzc,oy,zza,zzd];rfl
   .rename_i id;simp only[aq]at hx;obtain⟨pl,p1,rfl⟩:=hx;cases ho:S.h.get id with
    |none=>simp[ho]at h
    |some o=>
     cases o with
     |row a b c d t=>simp[ho]at h
     |nR x=>simp[ho]at h
     |map es clock=>
      simp only[ho,zzb]at h;obtain⟨dT,ES,q1,q2,q3⟩:=hR.ja id _ ho;rw[p1]at q1;cases q1;have hg:(getObj pl.b).run P w=.ok (.map ES clock) w:=by simp[getObj,Sem.run,q2]
      simp only[zzc,oy,hg,zza,zzd];rw[<-h];have:ES.size=es.length:=by have:=q3.1;simpa using this.symm
      rw[this]
  |array m e=>
   have h':some m=some n:=by cases x<;>exact h
   simp only[zzb]at h';subst h';simp only[zzc,oy,zza];cases x'<;>rfl
  |pointer e=>
   have h':(match bJ cx e with
    |some (.array n _)=>some n
    |_=>none)=some n:=by cases x<;>exact h
   split at h'
   .rename_i m e' he;simp only[zzb]at h';subst h';simp only[zzc,oy,zza];cases x'<;>simp only[aP aI he,zza,zzd]
   .cases h'
  |_=>cases x<;>simp at h
theorem yB{ρ:bf}{d:TypeDesc}{x y:AV}{r:Bool}{x' y':Value}(h:uQ d x y=some r)(hx:aq ρ x x')(hy:aq ρ y y'):
  Instr.sameNow d x' y'=some r:=by
 unfold uQ at h;split at h<;>(try (cases h;done))<;>simp only[aq]at hx hy
 .subst hx hy;rename_i j a k b;rw[cL,cQ]at h;by_cases hk:j=k
  .rw[decide_eq_true hk]at h;subst hk;cases h;simp[Instr.sameNow];rfl
  .rw[decide_eq_false hk]at h;cases h
 .obtain⟨b1,rfl,e1⟩:=hx;obtain⟨b2,rfl,e2⟩:=hy;cases h;show some (b1==b2)=_;rw[beq_toListBytes,sK e1 e2]
 .subst hx hy;cases h;rfl
theorem zk{ρ:bf}{d:TypeDesc}{k:AV}{k':Value}(hk:aq ρ k k'):∀(es:List jo)(ES:List MapEntry)(i:Nat)(r:Option (Nat×jo)),fp ρ es ES->zm d k es i=some r ->
  ∃r',Instr.findNow d k' ES i=some r'/\match r,r' with
   |none,none=>True
   |some (j,e),some (j',v)=>j=j'/\i<=j/\es[j-i]?=some e/\aq ρ e.val v/\uQ d k e.key=some true
   |_,_=>False:=by
 intro es
 induction es with
 |nil=>
  intro ES i r he h;have:ES=[]:=zzf (by have:=he.1;simpa using this.symm);subst this;have h':some none=some r:=h;cases h';exact⟨none,rfl,trivial⟩
 |cons e es ih=>
  intro ES i r he h;cases ES with
  |nil=>have:=he.1;simp at this
  |cons m ES=>
   have h':(match uQ d k e.key with
    |some true=>some (some (i,e))
    |some false=>zm d k es (i+1)
    |none=>none)=some r:=h
   obtain⟨h1,h2,h3⟩:=he.2 0 e m rfl rfl;have het:fp ρ es ES:=⟨by have:=he.1;simpa using this,fun j a b ha hb=>he.2 (j+1) a b (by simpa using ha) (by simpa using hb)⟩
   cases hs:uQ d k e.key with
   |none=>simp[hs]at h'
   |some b=>
    have hn:=yB hs hk h1;cases b with
    |true=>
     simp only[hs,zzb]at h';subst h';exact⟨some (i,m.val),by simp[Instr.findNow,hn],rfl,Nat.le_refl _,by simp,h2,hs⟩
    |false=>
     simp only[hs]at h';obtain⟨r',q1,q2⟩:=ih ES (i+1) r het h';refine⟨r',by simp[Instr.findNow,hn,q1],?_⟩;cases r with
     |none=>cases r' with
      |none=>trivial
      |some _=>exact q2.elim
     |some je=>cases r' with
      |none=>exact q2.elim
      |some jv=>
       obtain⟨a1,a2,a3,a4,a5⟩:=q2;refine⟨a1,by omega,?_,a4,a5⟩;have e':je.1-i=(je.1-(i+1))+1:=by omega
       rw[e'];simpa using a3
theorem xI{P:Program}{cx:Cx}(aI:cU Λ P cx){ρ:bf}{t:TypeId}{d:TypeDesc}{k:AV}{k':Value}{e:Bool}(hu:bJ cx t=some d)(hp:plainKey d k=true)(hk:aq ρ k k')(n:Nat)(w:World):
  (Instr.checkKey e (n+1) t k').run P w=.ok () w:=by
 unfold plainKey at hp;split at hp<;>(try simp only[aq]at hk)
 .subst hk;simp only[Instr.checkKey,zzc,aP aI hu,zza];rfl
 .obtain⟨b,rfl,_⟩:=hk;simp only[Instr.checkKey,zzc,aP aI hu,zza];rfl
 .subst hk;simp only[Instr.checkKey,zzc,aP aI hu,zza];rfl
 .cases hp
theorem fO{P:Program}{cx:Cx}(aI:cU Λ P cx){ρ:bf}{t:TypeId}{d:TypeDesc}{k:AV}{k':Value}{e:Bool}(hu:bJ cx t=some d)(hp:plainKey d k=true)(hk:aq ρ k k')(w:World):
  (Instr.checkKey e 10000 t k').run P w=.ok () w:=xI aI hu hp hk 9999 w
theorem jg{P:Program}{cx:Cx}(aI:cU Λ P cx){t:TypeId}{d:TypeDesc}{k':Value}{ES:List MapEntry}{r:Option (Nat×Value)}(hu:bJ cx t=some d)(h:Instr.findNow d k' ES 0=some r)(w:World):
  (Instr.findKey t k' ES).run P w=.ok r w:=by
 simp only[Instr.findKey,zzc,aP aI hu,zza,h,zzd]
theorem C9{P:Program}{cx:Cx}(aI:cU Λ P cx){ρ:bf}{S:AS}{w:World}(hR:R Λ ρ S w){t:TypeId}{x k v:AV}{ok:Bool}{x' k':Value}
  (h:q9 cx S t x k ok=some v) (hx:aq ρ x x') (hk:aq ρ k k'):∃z,(Instr.lookup t x' k' ok).run P w=.ok z w/\aq ρ v z:=by
 unfold q9 at h;cases hu:bJ cx t with
 |none=>simp[hu]at h
 |some dt=>
  rw[hu]at h;cases dt<;>simp only[reduceCtorEq]at h;rename_i kt et;cases hd:bJ cx kt with
  |none=>simp[hd]at h
  |some d=>
   cases hz:zeroOf cx et with
   |none=>simp[hd,hz]at h
   |some z=>
    simp only[hd,hz]at h;cases hp:plainKey d k with
    |false=>simp[hp]at h
    |true=>
     simp only[hp,cond_true]at h;obtain⟨zv,zr,pS⟩:=iV aI hz;have out:∀(u:AV)(u':Value)(b:Bool),aq ρ u u'->aq ρ (cond ok (.tuple [u,.bool b]) u) (if ok=true then .tuple #[u',.bool b] else u'):=by
      intro u u' b hu';cases ok with
      |true=>
       simp only[cond_true,if_true,aq];exact⟨_,rfl,aD.cons hu' (aD.cons (by simp[aq]) aD.nil)⟩
      |false=>simpa using hu'
     cases x<;>simp only[reduceCtorEq]at h
     case jb=>
      cases h;simp only[aq]at hx;subst hx;refine⟨_,?_,out z zv false (pS ρ)⟩;simp only[Instr.lookup,zzc,aP aI hu,zza,zzd,fO aI hd hp hk,jg aI hd (rfl:Instr.findNow d k' (#[]:Array MapEntry).toList 0=some none),zr]
     case map id=>
      simp only[aq]at hx;obtain⟨pl,p1,rfl⟩:=hx;cases ho:S.h.get id with
      |none=>simp[ho]at h
      |some o=>
       cases o with
       |row a b c d t=>simp[ho]at h
       |nR x=>simp[ho]at h
       |map es clock=>
        simp only[ho]at h;obtain⟨dT,ES,q1,q2,q3⟩:=hR.ja id _ ho;rw[p1]at q1;cases q1;have hg:(getObj pl.b).run P w=.ok (.map ES clock) w:=by simp[getObj,Sem.run,q2]
        cases hf:zm d k es 0 with
        |none=>simp[hf]at h
        |some r=>
         obtain⟨r',f1,f2⟩:=zk hk es ES.toList 0 r q3 hf;cases r with
         |none=>
          simp only[hf,zzb]at h;subst h;cases r' with
          |some _=>exact f2.elim
          |none=>
           refine⟨_,?_,out z zv false (pS ρ)⟩;simp only[Instr.lookup,zzc,aP aI hu,zza,zzd,hg,fO aI hd hp hk,jg aI hd f1,zr]
         |some je=>
          obtain⟨j,e⟩:=je;simp only[hf,zzb]at h;subst h;cases r' with
          |none=>exact f2.elim
          |some jv=>
           refine⟨_,?_,out e.val jv.2 true f2.2.2.2.1⟩;simp only[Instr.lookup,zzc,aP aI hu,zza,zzd,hg,fO aI hd hp hk,jg aI hd f1]
theorem uR{P:Program}{w:World}{b:Nat}{o:Obj}{ES:Array MapEntry}{c:Nat}(h:w.heap[b]?=some (.map ES c)):
  ∃w',(setObj b o).run P w=.ok () w'/\But b w w'/\w'.heap[b]?=some o:=by
 refine⟨{w with heap:=w.heap.setIfInBounds b o},by simp[setObj,Sem.run,h],⟨⟨rfl,rfl,rfl⟩,by simp,fun k hk=>?_⟩,?_⟩
 .simp only[Array.getElem?_setIfInBounds_ne (Ne.symm hk)]
 .have cR:b<w.heap.size:=(Array.getElem?_eq_some_iff.1 h).1;simp[cR]
theorem same_bits{d:TypeDesc}{x y:Value}(h:Instr.sameNow d x y=some true):Instr.sameBits 10000 y x=true:=by
 unfold Instr.sameNow at h;split at h
 .rename_i k a k' b;split at h
  .rename_i hk;subst hk;simp only[zzb,beq_iff_eq]at h;subst h;unfold Instr.sameBits;simp
  .cases h
 .simp only[zzb]at h;rename_i a b;rw[beq_toListBytes]at h;unfold Instr.sameBits;show (b==a)=true;rw[beq_toListBytes];have:=eq_of_beq h;rw[this];simp
 .simp only[zzb,beq_iff_eq]at h;subst h;unfold Instr.sameBits;simp
 .cases h
theorem sW{P:Program}{cx:Cx}(aI:cU Λ P cx){ρ:bf}{S S':AS}{w:World}(hR:R Λ ρ S w){t:TypeId}{x k v u:AV}{x' k' v':Value}
  (h:mH cx S t x k v=some (u,S')) (hx:aq ρ x x') (hk:aq ρ k k') (hv:aq ρ v v') :
  ∃w',(Instr.mapUpdate t x' k' v').run P w=.ok () w'/\u=.undef/\R Λ ρ S' w'/\Kp ρ S w ρ S' w':=by
 unfold mH at h;cases hu:bJ cx t with
 |none=>rw[hu]at h;cases x<;>simp at h
 |some dt=>
  rw[hu]at h;cases x with
  |map id=>
   cases dt<;>simp only[reduceCtorEq]at h;rename_i kt et;cases hd:bJ cx kt with
   |none=>simp[hd]at h
   |some d=>
    simp only[hd]at h;cases hp:plainKey d k with
    |false=>simp[hp]at h
    |true=>
     simp only[hp,cond_true]at h;simp only[aq]at hx;obtain⟨pl,p1,rfl⟩:=hx;cases ho:S.h.get id with
     |none=>simp[ho]at h
     |some o=>
      cases o with
      |row a b c d t=>simp[ho]at h
      |nR x=>simp[ho]at h
      |map es clock=>
       simp only[ho]at h;obtain⟨dT,ES,q1,q2,q3⟩:=hR.ja id _ ho;rw[p1]at q1;cases q1;have hg:(getObj pl.b).run P w=.ok (.map ES clock) w:=by simp[getObj,Sem.run,q2]
       cases hf:zm d k es 0 with
       |none=>simp[hf]at h
       |some r=>
        obtain⟨r',f1,f2⟩:=zk hk es ES.toList 0 r q3 hf;cases r with
        |none=>
         simp only[hf,zzb,Prod.mk.injEq,cA]at h;obtain⟨rfl,rfl⟩:=h;cases r' with
         |some _=>exact f2.elim
         |none=>
          obtain⟨w',s1,s2,s3⟩:=uR (P:=P) (o:=.map (ES.push {key:=k',val:=v',born:=clock}) (clock+1)) q2;obtain⟨t1,t2⟩:=hR.setMap (es:=es++[⟨k,v,clock⟩]) ho (by intro a b c d t e;cases e) p1 s2 s3 (by
           refine⟨by simp[q3.1],fun i e m he hm=>?_⟩;rw[Array.toList_push]at hm;by_cases hi:i<es.length
           .rw[zzh hi]at he;rw[zzh (by rw[<-q3.1];exact hi)]at hm;exact q3.2 i e m he hm
           .have hl:=q3.1;rw[zzg (by omega)]at he;rw[zzg (by omega)]at hm;have hi0:i-es.length=0:=by
             rcases Nat.eq_zero_or_pos (i-es.length)with h0|h0
             .exact h0
             .rw[List.getElem?_eq_none (by simp;omega)]at he;cases he
            have hi1:i-ES.toList.length=0:=by omega
            rw[hi0]at he;rw[hi1]at hm;simp at he hm;subst he hm;exact⟨hk,hv,rfl⟩)
          refine⟨w',?_,rfl,t1,t2⟩;simp only[Instr.mapUpdate,zzc,aP aI hu,zza,hg,fO aI hd hp hk,jg aI hd f1,s1]
        |some je=>
         obtain⟨j,e⟩:=je;simp only[hf,zzb,Prod.mk.injEq,setNth_eq]at h;obtain⟨rfl,rfl⟩:=h;cases r' with
         |none=>exact f2.elim
         |some jv=>
          obtain⟨j',vv⟩:=jv;obtain⟨rfl,_,hej,_,hsame⟩:=f2;simp only[Nat.sub_zero]at hej;have hjl:j<es.length:=by
           rcases Nat.lt_or_ge j es.length with h0|h0
           .exact h0
           .rw[List.getElem?_eq_none h0]at hej;cases hej
          have hjl':j<ES.toList.length:=by rw[<-q3.1];exact hjl
          have hm:ES.toList[j]?=some ES.toList[j]:=List.getElem?_eq_getElem hjl';obtain⟨hkk,hvv,jQ⟩:=q3.2 j e _ hej hm;have hms:ES[j]?=some ES.toList[j]:=by rw[<-zze];exact hm
          have hbits:=same_bits (yB hsame hk hkk);have hstay:(Instr.keyThatStays (((ES[j]?).map (·.key)).getD k') k').run P w=.ok k' w:=by
           rw[hms];simp only[Option.map_some,Option.getD_some,Instr.keyThatStays,hbits,if_true,zzd]
          obtain⟨w',s1,s2,s3⟩:=uR (P:=P) (o:=.map (ES.modify j fun e=>{e with key:=k',val:=v'}) clock) q2;obtain⟨t1,t2⟩:=hR.setMap (es:=es.set j ⟨k,v,e.born⟩) ho (by intro a b c d t e;cases e) p1 s2 s3 (by
           refine⟨by simp[q3.1],fun i e2 m he hm2=>?_⟩;rw[zze,Array.getElem?_modify]at hm2;by_cases sx:j=i
           .subst sx;rw[List.getElem?_set_self hjl]at he;rw[if_pos rfl,hms]at hm2;simp at he hm2;subst he hm2;exact⟨hk,hv,jQ⟩
           .rw[List.getElem?_set_ne sx]at he;rw[if_neg sx,<-zze]at hm2;exact q3.2 i e2 m he hm2)
          refine⟨w',?_,rfl,t1,t2⟩;simp only[Instr.mapUpdate,zzc,aP aI hu,zza,hg,fO aI hd hp hk,jg aI hd f1,hstay,s1]
  |_=>cases dt<;>simp at h
theorem D2{P:Program}{cx:Cx}(aI:cU Λ P cx){ρ:bf}{S S':AS}{w:World}(hR:R Λ ρ S w){ts:Array TypeId}{t ty:TypeId}{x k u:AV}{x' k':Value}
  (h:Bf cx S t x k=some (u,S')) (ht:ts[0]?=some t) (hx:aq ρ x x') (hk:aq ρ k k') :
  ∃w',(Builtin.delete_ ts ty #[x',k']).run P w=.ok undef w'/\u=.undef/\R Λ ρ S' w'/\Kp ρ S w ρ S' w':=by
 unfold Bf at h;cases h
theorem zi{P:Program}(mx:Bool):∀(l:List AV)(ρ:bf)(k:IntKind)(n:Int)(v:AV)(l':List Value),foldI (if mx then (fun n m=>!ltI n m) else (fun n m=>!ltI m n)) k n l=some v->aD ρ l l' ->
  ∀w,∃z,(l'.foldlM (if mx then Builtin.max2 else Builtin.min2) (.int k n)).run P w=.ok z w/\aq ρ v z:=by
 intro l
 induction l with
 |nil=>
  intro ρ k n v l' h hl w;simp only[aD]at hl;subst hl;simp only[foldI,zzb]at h;subst h;exact⟨_,rfl,by simp[aq]⟩
 |cons x l ih=>
  intro ρ k n v l' h hl w;simp only[aD]at hl;obtain⟨y,ys,rfl,hy,hys⟩:=hl;cases x<;>simp only[foldI,reduceCtorEq]at h;rename_i j m;simp only[aq]at hy;subst hy;rw[cL]at h;by_cases hj:j=k
  .rw[decide_eq_true hj]at h;subst hj;simp only[cond_true]at h;obtain⟨z,r1,r2⟩:=ih ρ j _ v ys h hys w;refine⟨z,?_,r2⟩;simp only[List.foldlM_cons,zzc];cases mx with
   |true=>
    simp only[if_true]at r1⊢;simp only[Builtin.max2,zzd,zza];have e:(if m > n then m else n)=(bif !ltI n m then n else m):=by
     rw[kf];by_cases hc:n<m
     .rw[if_pos hc,decide_eq_true hc];rfl
     .rw[if_neg hc,decide_eq_false hc];rfl
    rw[e];exact r1
   |false=>
    simp only[Bool.false_eq_true,if_false]at r1⊢;simp only[Builtin.min2,zzd,zza];have e:(if m<n then m else n)=(bif !ltI m n then n else m):=by
     rw[kf];by_cases hc:m<n
     .rw[if_pos hc,decide_eq_true hc];rfl
     .rw[if_neg hc,decide_eq_false hc];rfl
    rw[e];exact r1
  .rw[decide_eq_false hj]at h;cases h
end Go.Am
