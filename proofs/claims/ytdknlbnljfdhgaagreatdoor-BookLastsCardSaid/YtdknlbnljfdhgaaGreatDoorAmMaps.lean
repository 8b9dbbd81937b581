/-
  The abstract machine against the model: copies, lengths, maps.
-/
import Derived.Test.YtdknlbnljfdhgaaGreatDoorAmFresh
open Go.Result renaming andThen_ok->zza
open Option.some renaming injEq->zzb
open Go.Sem renaming run_bind->zzc,run_pure->zzd
open List renaming getElem?_cons_zero->zze,getElem?_cons_succ->zzf,getElem?_toArray->zzg,eq_nil_of_length_eq_zero->zzi,getElem?_append_right->zzj,getElem?_append_left->zzk
open Array renaming getElem?_toList->zzh
open Nat renaming min->zzl
namespace Go.Am
open Go
variable{Λ:LB}
theorem Qz{P:Program}{cx:Cx}(aF:dQ Λ P cx){ρ:aY}{S S':AS}{w:World}(hR:R Λ ρ S w){ts:Array TypeId}{t ty e:TypeId}{sz:Nat}{d x v:AV}{d' x':Value}
  (h:copyV S sz d x=some (v,S')) (Je:ts[0]?=some t) (hu:bN cx t=some (.slice e)) (hs:aG cx e=some sz) (hd:ai ρ d d') (hx:ai ρ x x') :
  tp Λ P ρ S w (Builtin.copy_ ts ty #[d',x']) v S':=by
 unfold copyV at h;cases ht:taken S sz x with
 |none=>simp[ht]at h
 |some nn=>
  obtain⟨n,new⟩:=nn;obtain⟨hlen,El,hfc⟩:=oa (P:=P) hR ht hx;rw[ht]at h;cases d<;>simp only[reduceCtorEq]at h
  case ar=>
   simp only[zzb,Prod.mk.injEq]at h;obtain⟨rfl,rfl⟩:=h;simp only[ai]at hd;subst hd;obtain⟨arr,r1,r2⟩:=hfc 0 (Nat.zero_le _);refine⟨.int .i64 0,ρ,w,?_,by simp[ai],hR,Kp.refl _ _ _⟩;have hm:zzl n 0=0:=Nat.min_zero n;unfold Builtin.copy_;simp only[Je,zzg,zze,zzf,zzc,aH aF hu,zza,hlen,hm,fg aF hs,r1,zzd];rfl
  case slice id g off len lim z cap=>
   simp only[bO]at h;by_cases wz:z=sz
   .subst wz;rw[decide_eq_true rfl]at h;simp only[cond_true]at h;obtain⟨ad,c,rfl,UT,oK⟩:=iv hd;obtain⟨arr,r1,r2⟩:=hfc (zzl n len) (Nat.min_le_left _ _);have run:∀w',(storeCells ad arr.toList).run P w=.ok () w'->(Builtin.copy_ ts ty #[.slice (some ad) len c,x']).run P w=.ok (goInt (zzl n len:Nat)) w':=by
     intro w' fI;unfold Builtin.copy_;simp only[Je,zzg,zze,zzf,zzc,aH aF hu,zza,hlen,fg aF hs,r1,fI,zzd]
    have jmA:=r2.length;have hmn:zzl n len<=n:=Nat.min_le_left _ _;have qz:zzl n len<=len:=Nat.min_le_right _ _;generalize hm:zzl n len=m at *;cases m with
    |zero=>
     simp only[zzb,Prod.mk.injEq]at h;obtain⟨rfl,rfl⟩:=h;have ha:arr.toList=[]:=by
      have:(new.take (0*z)).length=0:=by simp
      exact zzi (by omega)
     exact⟨_,ρ,w,run w (by rw[ha];rfl),by simp[ai,goInt],hR,Kp.refl _ _ _⟩
    |succ m=>
     simp only[Nat.mul_eq]at h;cases oI:wr S id g off lim (takeN ((m+1)*z) new)with
     |none=>simp[oI]at h
     |some S1=>
      simp only[oI,zzb,Prod.mk.injEq]at h;obtain⟨rfl,rfl⟩:=h;simp only[ai]at hd;obtain⟨pl,c',p1,p2,p3,p4,p5,hh⟩:=hd;rcases hh with⟨he,_⟩|⟨e1,_⟩
      .cases he;rw[cR]at oI;obtain⟨w',q1,q2,q3⟩:=vK (P:=P) hR oI p1 p2 r2.1 r2.2;exact⟨_,ρ,w',run w' q1,by simp[ai,goInt],q2,q3⟩
      .omega
   .rw[decide_eq_false wz]at h;cases h
theorem Um{P:Program}{cx:Cx}(aF:dQ Λ P cx){ρ:aY}{S:AS}{w:World}(hR:R Λ ρ S w){ts:Array TypeId}{t ty:TypeId}{x:AV}{x':Value}{n:Nat}{rest:Array Value}
  (h:KG cx S t x=some n) (Je:ts[0]?=some t) (hr:rest[0]?=some x') (hx:ai ρ x x'):(Builtin.len_ ts ty rest).run P w=.ok (goInt n) w:=by
 unfold KG at h;cases hu:bN cx t with
 |none=>simp[hu]at h
 |some d=>
  have si:=aH aF hu w;rw[hu]at h;unfold Builtin.len_;simp only[Je,hr];have hR':=hR;cases d with
  |string=>
   cases x<;>simp only[reduceCtorEq]at h;simp only[ai]at hx;obtain⟨b,rfl,hb⟩:=hx;simp only[zzb]at h;subst h;simp only[zzc,si,zza,zzd,oh hb]
  |slice e=>
   cases x<;>simp only[reduceCtorEq]at h
   .simp only[ai]at hx;subst hx;simp only[zzb]at h;subst h;simp only[zzc,si,zza,zzd]
   .obtain⟨a,c,rfl,_,_⟩:=iv hx;simp only[zzb]at h;subst h;simp only[zzc,si,zza,zzd]
  |map k e=>
   cases x<;>simp only[reduceCtorEq]at h
   .simp only[ai]at hx;subst hx;simp only[zzb]at h;subst h;simp only[zzc,si,zza,zzd];rfl
   .rename_i id;simp only[ai]at hx;obtain⟨pl,p1,rfl⟩:=hx;cases ho:S.h.get id with
    |none=>simp[ho]at h
    |some o=>
     cases o with
     |row a b c d t=>simp[ho]at h
     |j6 x=>simp[ho]at h
     |map es clock=>
      simp only[ho,zzb]at h;obtain⟨eA,ES,q1,q2,q3⟩:=hR.jE id _ ho;rw[p1]at q1;cases q1;have hg:(getObj pl.b).run P w=.ok (.map ES clock) w:=by simp[getObj,Sem.run,q2]
      simp only[zzc,si,hg,zza,zzd];rw[<-h];have:ES.size=es.length:=by have:=q3.1;simpa using this.symm
      rw[this]
  |array m e=>
   have h':some m=some n:=by cases x<;>exact h
   simp only[zzb]at h';subst h';simp only[zzc,si,zza];cases x'<;>rfl
  |pointer e=>
   have h':(match bN cx e with
    |some (.array n _)=>some n
    |_=>none)=some n:=by cases x<;>exact h
   split at h'
   .rename_i m e' he;simp only[zzb]at h';subst h';simp only[zzc,si,zza];cases x'<;>simp only[aH aF he,zza,zzd]
   .cases h'
  |_=>cases x<;>simp at h
theorem Cp{ρ:aY}{d:TypeDesc}{x y:AV}{r:Bool}{x' y':Value}(h:om d x y=some r)(hx:ai ρ x x')(hy:ai ρ y y'):
  Instr.sameNow d x' y'=some r:=by
 unfold om at h;split at h<;>(try (cases h;done))<;>simp only[ai]at hx hy
 .subst hx hy;rename_i j a k b;rw[dn,gz]at h;by_cases hk:j=k
  .rw[decide_eq_true hk]at h;subst hk;cases h;simp[Instr.sameNow];rfl
  .rw[decide_eq_false hk]at h;cases h
 .obtain⟨b1,rfl,e1⟩:=hx;obtain⟨b2,rfl,e2⟩:=hy;cases h;show some (b1==b2)=_;rw[beq_toListBytes,wP e1 e2]
 .subst hx hy;cases h;rfl
theorem wM{ρ:aY}{d:TypeDesc}{k:AV}{k':Value}(hk:ai ρ k k'):∀(es:List dI)(ES:List MapEntry)(i:Nat)(r:Option (Nat×dI)),Bh ρ es ES->gR d k es i=some r ->
  ∃r',Instr.findNow d k' ES i=some r'/\match r,r' with
   |none,none=>True
   |some (j,e),some (j',v)=>j=j'/\i<=j/\es[j-i]?=some e/\ai ρ e.val v/\om d k e.key=some true
   |_,_=>False:=by
 intro es
 induction es with
 |nil=>
  intro ES i r he h;have:ES=[]:=zzi (by have:=he.1;simpa using this.symm);subst this;have h':some none=some r:=h;cases h';exact⟨none,rfl,trivial⟩
 |cons e es ih=>
  intro ES i r he h;cases ES with
  |nil=>have:=he.1;simp at this
  |cons m ES=>
   have h':(match om d k e.key with
    |some true=>some (some (i,e))
    |some false=>gR d k es (i+1)
    |none=>none)=some r:=h
   obtain⟨h1,h2,h3⟩:=he.2 0 e m rfl rfl;have het:Bh ρ es ES:=⟨by have:=he.1;simpa using this,fun j a b ha hb=>he.2 (j+1) a b (by simpa using ha) (by simpa using hb)⟩
   cases hs:om d k e.key with
   |none=>simp[hs]at h'
   |some b=>
    have hn:=Cp hs hk h1;cases b with
    |true=>
     simp only[hs,zzb]at h';subst h';exact⟨some (i,m.val),by simp[Instr.findNow,hn],rfl,Nat.le_refl _,by simp,h2,hs⟩
    |false=>
     simp only[hs]at h';obtain⟨r',q1,q2⟩:=ih ES (i+1) r het h';refine⟨r',by simp[Instr.findNow,hn,q1],?_⟩;cases r with
     |none=>cases r' with
      |none=>trivial
      |some _=>exact q2.elim
     |some je=>cases r' with
      |none=>exact q2.elim
      |some jv=>
       obtain⟨a1,a2,a3,a4,a5⟩:=q2;refine⟨a1,by omega,?_,a4,a5⟩;have e':je.1-i=(je.1-(i+1))+1:=by omega
       rw[e'];simpa using a3
theorem BX{P:Program}{cx:Cx}(aF:dQ Λ P cx){ρ:aY}{t:TypeId}{d:TypeDesc}{k:AV}{k':Value}{e:Bool}(hu:bN cx t=some d)(hp:plainKey d k=true)(hk:ai ρ k k')(n:Nat)(w:World):
  (Instr.checkKey e (n+1) t k').run P w=.ok () w:=by
 unfold plainKey at hp;split at hp<;>(try simp only[ai]at hk)
 .subst hk;simp only[Instr.checkKey,zzc,aH aF hu,zza];rfl
 .obtain⟨b,rfl,_⟩:=hk;simp only[Instr.checkKey,zzc,aH aF hu,zza];rfl
 .subst hk;simp only[Instr.checkKey,zzc,aH aF hu,zza];rfl
 .cases hp
theorem ef{P:Program}{cx:Cx}(aF:dQ Λ P cx){ρ:aY}{t:TypeId}{d:TypeDesc}{k:AV}{k':Value}{e:Bool}(hu:bN cx t=some d)(hp:plainKey d k=true)(hk:ai ρ k k')(w:World):
  (Instr.checkKey e 10000 t k').run P w=.ok () w:=BX aF hu hp hk 9999 w
theorem gQ{P:Program}{cx:Cx}(aF:dQ Λ P cx){t:TypeId}{d:TypeDesc}{k':Value}{ES:List MapEntry}{r:Option (Nat×Value)}(hu:bN cx t=some d)(h:Instr.findNow d k' ES 0=some r)(w:World):
  (Instr.findKey t k' ES).run P w=.ok r w:=by
 simp only[Instr.findKey,zzc,aH aF hu,zza,h,zzd]
theorem Hc{P:Program}{cx:Cx}(aF:dQ Λ P cx){ρ:aY}{S:AS}{w:World}(hR:R Λ ρ S w){t:TypeId}{x k v:AV}{ok:Bool}{x' k':Value}
  (h:lY cx S t x k ok=some v) (hx:ai ρ x x') (hk:ai ρ k k'):∃z,(Instr.lookup t x' k' ok).run P w=.ok z w/\ai ρ v z:=by
 unfold lY at h;cases hu:bN cx t with
 |none=>simp[hu]at h
 |some dt=>
  rw[hu]at h;cases dt<;>simp only[reduceCtorEq]at h;rename_i kt et;cases hd:bN cx kt with
  |none=>simp[hd]at h
  |some d=>
   cases hz:zeroOf cx et with
   |none=>simp[hd,hz]at h
   |some z=>
    simp only[hd,hz]at h;cases hp:plainKey d k with
    |false=>simp[hp]at h
    |true=>
     simp only[hp,cond_true]at h;obtain⟨zv,zr,tt⟩:=kW aF hz;have out:∀(u:AV)(u':Value)(b:Bool),ai ρ u u'->ai ρ (cond ok (.tuple [u,.bool b]) u) (if ok=true then .tuple #[u',.bool b] else u'):=by
      intro u u' b hu';cases ok with
      |true=>
       simp only[cond_true,if_true,ai];exact⟨_,rfl,ay.cons hu' (ay.cons (by simp[ai]) ay.nil)⟩
      |false=>simpa using hu'
     cases x<;>simp only[reduceCtorEq]at h
     case j8=>
      cases h;simp only[ai]at hx;subst hx;refine⟨_,?_,out z zv false (tt ρ)⟩;simp only[Instr.lookup,zzc,aH aF hu,zza,zzd,ef aF hd hp hk,gQ aF hd (rfl:Instr.findNow d k' (#[]:Array MapEntry).toList 0=some none),zr]
     case map id=>
      simp only[ai]at hx;obtain⟨pl,p1,rfl⟩:=hx;cases ho:S.h.get id with
      |none=>simp[ho]at h
      |some o=>
       cases o with
       |row a b c d t=>simp[ho]at h
       |j6 x=>simp[ho]at h
       |map es clock=>
        simp only[ho]at h;obtain⟨eA,ES,q1,q2,q3⟩:=hR.jE id _ ho;rw[p1]at q1;cases q1;have hg:(getObj pl.b).run P w=.ok (.map ES clock) w:=by simp[getObj,Sem.run,q2]
        cases hf:gR d k es 0 with
        |none=>simp[hf]at h
        |some r=>
         obtain⟨r',f1,f2⟩:=wM hk es ES.toList 0 r q3 hf;cases r with
         |none=>
          simp only[hf,zzb]at h;subst h;cases r' with
          |some _=>exact f2.elim
          |none=>
           refine⟨_,?_,out z zv false (tt ρ)⟩;simp only[Instr.lookup,zzc,aH aF hu,zza,zzd,hg,ef aF hd hp hk,gQ aF hd f1,zr]
         |some je=>
          obtain⟨j,e⟩:=je;simp only[hf,zzb]at h;subst h;cases r' with
          |none=>exact f2.elim
          |some jv=>
           refine⟨_,?_,out e.val jv.2 true f2.2.2.2.1⟩;simp only[Instr.lookup,zzc,aH aF hu,zza,zzd,hg,ef aF hd hp hk,gQ aF hd f1]
theorem pA{P:Program}{w:World}{b:Nat}{o:Obj}{ES:Array MapEntry}{c:Nat}(h:w.heap[b]?=some (.map ES c)):
  ∃w',(setObj b o).run P w=.ok () w'/\N7 b w w'/\w'.heap[b]?=some o:=by
 refine⟨{w with heap:=w.heap.setIfInBounds b o},by simp[setObj,Sem.run,h],⟨⟨rfl,rfl,rfl⟩,by simp,fun k hk=>?_⟩,?_⟩
 .simp only[Array.getElem?_setIfInBounds_ne (Ne.symm hk)]
 .have cQ:b<w.heap.size:=(Array.getElem?_eq_some_iff.1 h).1;simp[cQ]
theorem ON{d:TypeDesc}{x y:Value}(h:Instr.sameNow d x y=some true):Instr.sameBits 10000 y x=true:=by
 unfold Instr.sameNow at h;split at h
 .rename_i k a k' b;split at h
  .rename_i hk;subst hk;simp only[zzb,beq_iff_eq]at h;subst h;unfold Instr.sameBits;simp
  .cases h
 .simp only[zzb]at h;rename_i a b;rw[beq_toListBytes]at h;unfold Instr.sameBits;show (b==a)=true;rw[beq_toListBytes];have:=eq_of_beq h;rw[this];simp
 .simp only[zzb,beq_iff_eq]at h;subst h;unfold Instr.sameBits;simp
 .cases h
theorem xh{P:Program}{cx:Cx}(aF:dQ Λ P cx){ρ:aY}{S S':AS}{w:World}(hR:R Λ ρ S w){t:TypeId}{x k v u:AV}{x' k' v':Value}
  (h:ph cx S t x k v=some (u,S')) (hx:ai ρ x x') (hk:ai ρ k k') (hv:ai ρ v v') :
  ∃w',(Instr.mapUpdate t x' k' v').run P w=.ok () w'/\u=.undef/\R Λ ρ S' w'/\Kp ρ S w ρ S' w':=by
 unfold ph at h;cases hu:bN cx t with
 |none=>rw[hu]at h;cases x<;>simp at h
 |some dt=>
  rw[hu]at h;cases x with
  |map id=>
   cases dt<;>simp only[reduceCtorEq]at h;rename_i kt et;cases hd:bN cx kt with
   |none=>simp[hd]at h
   |some d=>
    simp only[hd]at h;cases hp:plainKey d k with
    |false=>simp[hp]at h
    |true=>
     simp only[hp,cond_true]at h;simp only[ai]at hx;obtain⟨pl,p1,rfl⟩:=hx;cases ho:S.h.get id with
     |none=>simp[ho]at h
     |some o=>
      cases o with
      |row a b c d t=>simp[ho]at h
      |j6 x=>simp[ho]at h
      |map es clock=>
       simp only[ho]at h;obtain⟨eA,ES,q1,q2,q3⟩:=hR.jE id _ ho;rw[p1]at q1;cases q1;have hg:(getObj pl.b).run P w=.ok (.map ES clock) w:=by simp[getObj,Sem.run,q2]
       cases hf:gR d k es 0 with
       |none=>simp[hf]at h
       |some r=>
        obtain⟨r',f1,f2⟩:=wM hk es ES.toList 0 r q3 hf;cases r with
        |none=>
         simp only[hf,zzb,Prod.mk.injEq,bJ]at h;obtain⟨rfl,rfl⟩:=h;cases r' with
         |some _=>exact f2.elim
         |none=>
          obtain⟨w',s1,s2,s3⟩:=pA (P:=P) (o:=.map (ES.push {key:=k',val:=v',born:=clock}) (clock+1)) q2;obtain⟨t1,t2⟩:=hR.DB (es:=es++[⟨k,v,clock⟩]) ho (by intro a b c d t e;cases e) p1 s2 s3 (by
           refine⟨by simp[q3.1],fun i e m he hm=>?_⟩;rw[Array.toList_push]at hm;by_cases hi:i<es.length
           .rw[zzk hi]at he;rw[zzk (by rw[<-q3.1];exact hi)]at hm;exact q3.2 i e m he hm
           .have hl:=q3.1;rw[zzj (by omega)]at he;rw[zzj (by omega)]at hm;have hi0:i-es.length=0:=by
             rcases Nat.eq_zero_or_pos (i-es.length)with h0|h0
             .exact h0
             .rw[List.getElem?_eq_none (by simp;omega)]at he;cases he
            have Ep:i-ES.toList.length=0:=by omega
            rw[hi0]at he;rw[Ep]at hm;simp at he hm;subst he hm;exact⟨hk,hv,rfl⟩)
          refine⟨w',?_,rfl,t1,t2⟩;simp only[Instr.mapUpdate,zzc,aH aF hu,zza,hg,ef aF hd hp hk,gQ aF hd f1,s1]
        |some je=>
         obtain⟨j,e⟩:=je;simp only[hf,zzb,Prod.mk.injEq,OI]at h;obtain⟨rfl,rfl⟩:=h;cases r' with
         |none=>exact f2.elim
         |some jv=>
          obtain⟨j',vv⟩:=jv;obtain⟨rfl,_,hej,_,lQ⟩:=f2;simp only[Nat.sub_zero]at hej;have hjl:j<es.length:=by
           rcases Nat.lt_or_ge j es.length with h0|h0
           .exact h0
           .rw[List.getElem?_eq_none h0]at hej;cases hej
          have hjl':j<ES.toList.length:=by rw[<-q3.1];exact hjl
          have hm:ES.toList[j]?=some ES.toList[j]:=List.getElem?_eq_getElem hjl';obtain⟨hkk,hvv,qA⟩:=q3.2 j e _ hej hm;have hms:ES[j]?=some ES.toList[j]:=by rw[<-zzh];exact hm
          have jiS:=ON (Cp lQ hk hkk);have jic:(Instr.keyThatStays (((ES[j]?).map (·.key)).getD k') k').run P w=.ok k' w:=by
           rw[hms];simp only[Option.map_some,Option.getD_some,Instr.keyThatStays,jiS,if_true,zzd]
          obtain⟨w',s1,s2,s3⟩:=pA (P:=P) (o:=.map (ES.modify j fun e=>{e with key:=k',val:=v'}) clock) q2;obtain⟨t1,t2⟩:=hR.DB (es:=es.set j ⟨k,v,e.born⟩) ho (by intro a b c d t e;cases e) p1 s2 s3 (by
           refine⟨by simp[q3.1],fun i e2 m he FA=>?_⟩;rw[zzh,Array.getElem?_modify]at FA;by_cases sj:j=i
           .subst sj;rw[List.getElem?_set_self hjl]at he;rw[if_pos rfl,hms]at FA;simp at he FA;subst he FA;exact⟨hk,hv,qA⟩
           .rw[List.getElem?_set_ne sj]at he;rw[if_neg sj,<-zzh]at FA;exact q3.2 i e2 m he FA)
          refine⟨w',?_,rfl,t1,t2⟩;simp only[Instr.mapUpdate,zzc,aH aF hu,zza,hg,ef aF hd hp hk,gQ aF hd f1,jic,s1]
  |_=>cases dt<;>simp at h
theorem Qm{α:Type}:∀(n:Nat)(l:List α),wO n l=l.eraseIdx n:=by
 intro n;induction n with
 |zero=>intro l;cases l<;>rfl
 |succ n ih=>intro l;cases l with
  |nil=>rfl
  |cons x l=>show x::wO n l=_;rw[ih];rfl
theorem Ic{P:Program}{cx:Cx}(aF:dQ Λ P cx){ρ:aY}{S S':AS}{w:World}(hR:R Λ ρ S w){ts:Array TypeId}{t ty:TypeId}{x k u:AV}{x' k':Value}
  (h:sE cx S t x k=some (u,S')) (ht:ts[0]?=some t) (hx:ai ρ x x') (hk:ai ρ k k') :
  ∃w',(Builtin.delete_ ts ty #[x',k']).run P w=.ok undef w'/\u=.undef/\R Λ ρ S' w'/\Kp ρ S w ρ S' w':=by
 unfold sE at h;cases hu:bN cx t with
 |none=>rw[hu]at h;cases h
 |some dt=>
  rw[hu]at h;cases dt<;>simp only[reduceCtorEq]at h;rename_i kt et;cases hd:bN cx kt with
  |none=>simp[hd]at h
  |some d=>
   simp only[hd]at h;cases hp:plainKey d k with
   |false=>simp[hp]at h
   |true=>
    simp only[hp,cond_true]at h;cases x<;>simp only[reduceCtorEq]at h
    case j8=>
     cases h;simp only[ai]at hx;subst hx;refine⟨w,?_,rfl,hR,Kp.refl _ _ _⟩;simp only[Builtin.delete_,ht,zzg,zze,zzf,zzc,aH aF hu,zza,ef aF hd hp hk,zzd];rfl
    case map id=>
     simp only[ai]at hx;obtain⟨pl,p1,rfl⟩:=hx;cases ho:S.h.get id with
     |none=>simp[ho]at h
     |some o=>
      cases o with
      |row a b c d t=>simp[ho]at h
      |j6 x=>simp[ho]at h
      |map es clock=>
       simp only[ho]at h;obtain⟨eA,ES,q1,q2,q3⟩:=hR.jE id _ ho;rw[p1]at q1;cases q1;have hg:(getObj pl.b).run P w=.ok (.map ES clock) w:=by simp[getObj,Sem.run,q2]
       cases hf:gR d k es 0 with
       |none=>simp[hf]at h
       |some r=>
        obtain⟨r',f1,f2⟩:=wM hk es ES.toList 0 r q3 hf;cases r with
        |none=>
         simp only[hf,zzb,Prod.mk.injEq]at h;obtain⟨rfl,rfl⟩:=h;cases r' with
         |some _=>exact f2.elim
         |none=>
          obtain⟨w',s1,s2,s3⟩:=pA (P:=P) (o:=.map ES clock) q2;obtain⟨t1,t2⟩:=hR.DB (es:=es) ho (by intro a b c d t e;cases e) p1 s2 s3 q3;refine⟨w',?_,rfl,t1,t2⟩;simp only[Builtin.delete_,ht,zzg,zze,zzf,zzc,aH aF hu,zza,hg,ef aF hd hp hk,gQ aF hd f1,s1,zzd];rfl
        |some je=>
         obtain⟨j,e⟩:=je;simp only[hf,zzb,Prod.mk.injEq,Qm]at h;obtain⟨rfl,rfl⟩:=h;cases r' with
         |none=>exact f2.elim
         |some jv=>
          obtain⟨j',vv⟩:=jv;obtain⟨rfl,_,_,_,_⟩:=f2;obtain⟨w',s1,s2,s3⟩:=pA (P:=P) (o:=.map (ES.eraseIdxIfInBounds j) clock) q2;have hel:(ES.eraseIdxIfInBounds j).toList=ES.toList.eraseIdx j:=by simp
          obtain⟨t1,t2⟩:=hR.DB (es:=es.eraseIdx j) ho (by intro a b c d t e;cases e) p1 s2 s3 (by
           rw[hel];refine⟨by rw[List.length_eraseIdx,List.length_eraseIdx,q3.1],fun i e2 m he FA=>?_⟩;rw[List.getElem?_eraseIdx]at he FA;by_cases sj:i<j
           .rw[if_pos sj]at he FA;exact q3.2 i e2 m he FA
           .rw[if_neg sj]at he FA;exact q3.2 _ e2 m he FA)
          refine⟨w',?_,rfl,t1,t2⟩;simp only[Builtin.delete_,ht,zzg,zze,zzf,zzc,aH aF hu,zza,hg,ef aF hd hp hk,gQ aF hd f1,s1,zzd];rfl
theorem CY{P:Program}(mx:Bool):∀(l:List AV)(ρ:aY)(k:IntKind)(n:Int)(v:AV)(l':List Value),foldI (if mx then (fun n m=>!ML n m) else (fun n m=>!ML m n)) k n l=some v->ay ρ l l' ->
  ∀w,∃z,(l'.foldlM (if mx then Builtin.max2 else Builtin.min2) (.int k n)).run P w=.ok z w/\ai ρ v z:=by
 intro l
 induction l with
 |nil=>
  intro ρ k n v l' h hl w;simp only[ay]at hl;subst hl;simp only[foldI,zzb]at h;subst h;exact⟨_,rfl,by simp[ai]⟩
 |cons x l ih=>
  intro ρ k n v l' h hl w;simp only[ay]at hl;obtain⟨y,ys,rfl,hy,hys⟩:=hl;cases x<;>simp only[foldI,reduceCtorEq]at h;rename_i j m;simp only[ai]at hy;subst hy;rw[dn]at h;by_cases hj:j=k
  .rw[decide_eq_true hj]at h;subst hj;simp only[cond_true]at h;obtain⟨z,r1,r2⟩:=ih ρ j _ v ys h hys w;refine⟨z,?_,r2⟩;simp only[List.foldlM_cons,zzc];cases mx with
   |true=>
    simp only[if_true]at r1⊢;simp only[Builtin.max2,zzd,zza];have e:(if m > n then m else n)=(bif !ML n m then n else m):=by
     rw[mL];by_cases hc:n<m
     .rw[if_pos hc,decide_eq_true hc];rfl
     .rw[if_neg hc,decide_eq_false hc];rfl
    rw[e];exact r1
   |false=>
    simp only[Bool.false_eq_true,if_false]at r1⊢;simp only[Builtin.min2,zzd,zza];have e:(if m<n then m else n)=(bif !ML m n then n else m):=by
     rw[mL];by_cases hc:m<n
     .rw[if_pos hc,decide_eq_true hc];rfl
     .rw[if_neg hc,decide_eq_false hc];rfl
    rw[e];exact r1
  .rw[decide_eq_false hj]at h;cases h
end Go.Am
