/-
  The abstract machine against the model: copies, lengths, maps.
-/
import Derived.Test.YtdknlbnljfdhgaaGreatDoorAmFresh
namespace Go.Am
open Go
variable{Λ:LB}
theorem copyV_run{P:Program}{cx:Cx}(aC:dq Λ P cx){ρ:aO}{S S':AS}{w:World}(hR:R Λ ρ S w){ts:Array TypeId}{t ty e:TypeId}{sz:Nat}{d x v:AV}{d' x':Value}
  (h:copyV S sz d x=some (v,S')) (hts:ts[0]?=some t) (hu:bC cx t=some (.slice e)) (hs:aE cx e=some sz) (hd:ah ρ d d') (hx:ah ρ x x') :
  rj Λ P ρ S w (Builtin.copy_ ts ty #[d',x']) v S':=by
 unfold copyV at h;cases ht:taken S sz x with
 |none=>simp[ht]at h
 |some nn=>
  obtain⟨n,new⟩:=nn;obtain⟨hlen,yu,hfc⟩:=mF (P:=P) hR ht hx;rw[ht]at h;cases d<;>simp only[reduceCtorEq]at h
  case aq=>
   simp only[Option.some.injEq,Prod.mk.injEq]at h;obtain⟨rfl,rfl⟩:=h;simp only[ah]at hd;subst hd;obtain⟨arr,r1,r2⟩:=hfc 0 (Nat.zero_le _);refine⟨.int .i64 0,ρ,w,?_,by simp[ah],hR,Kp.refl _ _ _⟩;have hm:Nat.min n 0=0:=Nat.min_zero n;unfold Builtin.copy_;simp only[hts,List.getElem?_toArray,List.getElem?_cons_zero,List.getElem?_cons_succ,Sem.run_bind,aF aC hu,Result.andThen_ok,hlen,hm,dZ aC hs,r1,Sem.run_pure];rfl
  case slice id g off len lim z cap=>
   simp only[bF]at h;by_cases tY:z=sz
   .subst tY;rw[decide_eq_true rfl]at h;simp only[cond_true]at h;obtain⟨ad,c,rfl,hlc,mW⟩:=gq hd;obtain⟨arr,r1,r2⟩:=hfc (Nat.min n len) (Nat.min_le_left _ _);have run:∀w',(storeCells ad arr.toList).run P w=.ok () w'->(Builtin.copy_ ts ty #[.slice (some ad) len c,x']).run P w=.ok (goInt (Nat.min n len:Nat)) w':=by
     intro w' fy;unfold Builtin.copy_;simp only[hts,List.getElem?_toArray,List.getElem?_cons_zero,List.getElem?_cons_succ,Sem.run_bind,aF aC hu,Result.andThen_ok,hlen,dZ aC hs,r1,fy,Sem.run_pure]
    have harrl:=r2.length;have hmn:Nat.min n len<=n:=Nat.min_le_left _ _;have se:Nat.min n len<=len:=Nat.min_le_right _ _;generalize hm:Nat.min n len=m at *;cases m with
    |zero=>
     simp only[Option.some.injEq,Prod.mk.injEq]at h;obtain⟨rfl,rfl⟩:=h;have ha:arr.toList=[]:=by
      have:(new.take (0*z)).length=0:=by simp
      exact List.eq_nil_of_length_eq_zero (by omega)
     exact⟨_,ρ,w,run w (by rw[ha];rfl),by simp[ah,goInt],hR,Kp.refl _ _ _⟩
    |succ m=>
     simp only[Nat.mul_eq]at h;cases mj:wr S id g off lim (takeN ((m+1)*z) new)with
     |none=>simp[mj]at h
     |some S1=>
      simp only[mj,Option.some.injEq,Prod.mk.injEq]at h;obtain⟨rfl,rfl⟩:=h;simp only[ah]at hd;obtain⟨pl,c',p1,p2,p3,p4,p5,hh⟩:=hd;rcases hh with⟨he,_⟩|⟨e1,_⟩
      .cases he;rw[ct]at mj;obtain⟨w',q1,q2,q3⟩:=tD (P:=P) hR mj p1 p2 r2.1 r2.2;exact⟨_,ρ,w',run w' q1,by simp[ah,goInt],q2,q3⟩
      .omega
   .rw[decide_eq_false tY]at h;cases h
theorem lenV_run{P:Program}{cx:Cx}(aC:dq Λ P cx){ρ:aO}{S:AS}{w:World}(hR:R Λ ρ S w){ts:Array TypeId}{t ty:TypeId}{x:AV}{x':Value}{n:Nat}{rest:Array Value}
  (h:lenV cx S t x=some n) (hts:ts[0]?=some t) (hr:rest[0]?=some x') (hx:ah ρ x x'):(Builtin.len_ ts ty rest).run P w=.ok (goInt n) w:=by
 unfold lenV at h;cases hu:bC cx t with
 |none=>simp[hu]at h
 |some d=>
  have qt:=aF aC hu w;rw[hu]at h;unfold Builtin.len_;simp only[hts,hr];have hR':=hR;cases d with
  |string=>
   cases x<;>simp only[reduceCtorEq]at h;simp only[ah]at hx;obtain⟨b,rfl,hb⟩:=hx;simp only[Option.some.injEq]at h;subst h;simp only[Sem.run_bind,qt,Result.andThen_ok,Sem.run_pure,mJ hb]
  |slice e=>
   cases x<;>simp only[reduceCtorEq]at h
   .simp only[ah]at hx;subst hx;simp only[Option.some.injEq]at h;subst h;simp only[Sem.run_bind,qt,Result.andThen_ok,Sem.run_pure]
   .obtain⟨a,c,rfl,_,_⟩:=gq hx;simp only[Option.some.injEq]at h;subst h;simp only[Sem.run_bind,qt,Result.andThen_ok,Sem.run_pure]
  |map k e=>
   cases x<;>simp only[reduceCtorEq]at h
   .simp only[ah]at hx;subst hx;simp only[Option.some.injEq]at h;subst h;simp only[Sem.run_bind,qt,Result.andThen_ok,Sem.run_pure];rfl
   .rename_i id;simp only[ah]at hx;obtain⟨pl,p1,rfl⟩:=hx;cases ho:S.h.get id with
    |none=>simp[ho]at h
    |some o=>
     cases o with
     |row a b c d t=>simp[ho]at h
     |jk x=>simp[ho]at h
     |map es clock=>
      simp only[ho,Option.some.injEq]at h;obtain⟨dK,ES,q1,q2,q3⟩:=hR.iM id _ ho;rw[p1]at q1;cases q1;have hg:(getObj pl.b).run P w=.ok (.map ES clock) w:=by simp[getObj,Sem.run,q2]
      simp only[Sem.run_bind,qt,hg,Result.andThen_ok,Sem.run_pure];rw[<-h];have:ES.size=es.length:=by have:=q3.1;simpa using this.symm
      rw[this]
  |array m e=>
   have h':some m=some n:=by cases x<;>exact h
   simp only[Option.some.injEq]at h';subst h';simp only[Sem.run_bind,qt,Result.andThen_ok];cases x'<;>rfl
  |pointer e=>
   have h':(match bC cx e with
    |some (.array n _)=>some n
    |_=>none)=some n:=by cases x<;>exact h
   split at h'
   .rename_i m e' he;simp only[Option.some.injEq]at h';subst h';simp only[Sem.run_bind,qt,Result.andThen_ok];cases x'<;>simp only[aF aC he,Result.andThen_ok,Sem.run_pure]
   .cases h'
  |_=>cases x<;>simp at h
theorem zB{ρ:aO}{d:TypeDesc}{x y:AV}{r:Bool}{x' y':Value}(h:mK d x y=some r)(hx:ah ρ x x')(hy:ah ρ y y'):
  Instr.sameNow d x' y'=some r:=by
 unfold mK at h;split at h<;>(try (cases h;done))<;>simp only[ah]at hx hy
 .subst hx hy;rename_i j a k b;rw[cR,gK]at h;by_cases hk:j=k
  .rw[decide_eq_true hk]at h;subst hk;cases h;simp[Instr.sameNow];rfl
  .rw[decide_eq_false hk]at h;cases h
 .obtain⟨b1,rfl,e1⟩:=hx;obtain⟨b2,rfl,e2⟩:=hy;cases h;show some (b1==b2)=_;rw[beq_toListBytes,ux e1 e2]
 .subst hx hy;cases h;rfl
theorem ur{ρ:aO}{d:TypeDesc}{k:AV}{k':Value}(hk:ah ρ k k'):∀(es:List dg)(ES:List MapEntry)(i:Nat)(r:Option (Nat×dg)),yj ρ es ES->fU d k es i=some r ->
  ∃r',Instr.findNow d k' ES i=some r'/\match r,r' with
   |none,none=>True
   |some (j,e),some (j',v)=>j=j'/\i<=j/\es[j-i]?=some e/\ah ρ e.val v/\mK d k e.key=some true
   |_,_=>False:=by
 intro es
 induction es with
 |nil=>
  intro ES i r he h;have:ES=[]:=List.eq_nil_of_length_eq_zero (by have:=he.1;simpa using this.symm);subst this;have h':some none=some r:=h;cases h';exact⟨none,rfl,trivial⟩
 |cons e es ih=>
  intro ES i r he h;cases ES with
  |nil=>have:=he.1;simp at this
  |cons m ES=>
   have h':(match mK d k e.key with
    |some true=>some (some (i,e))
    |some false=>fU d k es (i+1)
    |none=>none)=some r:=h
   obtain⟨h1,h2,h3⟩:=he.2 0 e m rfl rfl;have het:yj ρ es ES:=⟨by have:=he.1;simpa using this,fun j a b ha hb=>he.2 (j+1) a b (by simpa using ha) (by simpa using hb)⟩
   cases hs:mK d k e.key with
   |none=>simp[hs]at h'
   |some b=>
    have hn:=zB hs hk h1;cases b with
    |true=>
     simp only[hs,Option.some.injEq]at h';subst h';exact⟨some (i,m.val),by simp[Instr.findNow,hn],rfl,Nat.le_refl _,by simp,h2,hs⟩
    |false=>
     simp only[hs]at h';obtain⟨r',q1,q2⟩:=ih ES (i+1) r het h';refine⟨r',by simp[Instr.findNow,hn,q1],?_⟩;cases r with
     |none=>cases r' with
      |none=>trivial
      |some _=>exact q2.elim
     |some je=>cases r' with
      |none=>exact q2.elim
      |some jv=>
       obtain⟨a1,a2,a3,a4,a5⟩:=q2;refine⟨a1,by omega,?_,a4,a5⟩;have e':je.1-i=(je.1-(i+1))+1:=by omega
       rw[e'];simpa using a3
theorem y7{P:Program}{cx:Cx}(aC:dq Λ P cx){ρ:aO}{t:TypeId}{d:TypeDesc}{k:AV}{k':Value}{e:Bool}(hu:bC cx t=some d)(hp:plainKey d k=true)(hk:ah ρ k k')(n:Nat)(w:World):
  (Instr.checkKey e (n+1) t k').run P w=.ok () w:=by
 unfold plainKey at hp;split at hp<;>(try simp only[ah]at hk)
 .subst hk;simp only[Instr.checkKey,Sem.run_bind,aF aC hu,Result.andThen_ok];rfl
 .obtain⟨b,rfl,_⟩:=hk;simp only[Instr.checkKey,Sem.run_bind,aF aC hu,Result.andThen_ok];rfl
 .subst hk;simp only[Instr.checkKey,Sem.run_bind,aF aC hu,Result.andThen_ok];rfl
 .cases hp
theorem dC{P:Program}{cx:Cx}(aC:dq Λ P cx){ρ:aO}{t:TypeId}{d:TypeDesc}{k:AV}{k':Value}{e:Bool}(hu:bC cx t=some d)(hp:plainKey d k=true)(hk:ah ρ k k')(w:World):
  (Instr.checkKey e 10000 t k').run P w=.ok () w:=y7 aC hu hp hk 9999 w
theorem fT{P:Program}{cx:Cx}(aC:dq Λ P cx){t:TypeId}{d:TypeDesc}{k':Value}{ES:List MapEntry}{r:Option (Nat×Value)}(hu:bC cx t=some d)(h:Instr.findNow d k' ES 0=some r)(w:World):
  (Instr.findKey t k' ES).run P w=.ok r w:=by
 simp only[Instr.findKey,Sem.run_bind,aF aC hu,Result.andThen_ok,h,Sem.run_pure]
theorem En{P:Program}{cx:Cx}(aC:dq Λ P cx){ρ:aO}{S:AS}{w:World}(hR:R Λ ρ S w){t:TypeId}{x k v:AV}{ok:Bool}{x' k':Value}
  (h:kN cx S t x k ok=some v) (hx:ah ρ x x') (hk:ah ρ k k'):∃z,(Instr.lookup t x' k' ok).run P w=.ok z w/\ah ρ v z:=by
 unfold kN at h;cases hu:bC cx t with
 |none=>simp[hu]at h
 |some dt=>
  rw[hu]at h;cases dt<;>simp only[reduceCtorEq]at h;rename_i kt et;cases hd:bC cx kt with
  |none=>simp[hd]at h
  |some d=>
   cases hz:zeroOf cx et with
   |none=>simp[hd,hz]at h
   |some z=>
    simp only[hd,hz]at h;cases hp:plainKey d k with
    |false=>simp[hp]at h
    |true=>
     simp only[hp,cond_true]at h;obtain⟨zv,zr,rl⟩:=jO aC hz;have out:∀(u:AV)(u':Value)(b:Bool),ah ρ u u'->ah ρ (cond ok (.tuple [u,.bool b]) u) (if ok=true then .tuple #[u',.bool b] else u'):=by
      intro u u' b hu';cases ok with
      |true=>
       simp only[cond_true,if_true,ah];exact⟨_,rfl,au.cons hu' (au.cons (by simp[ah]) au.nil)⟩
      |false=>simpa using hu'
     cases x<;>simp only[reduceCtorEq]at h
     case jl=>
      cases h;simp only[ah]at hx;subst hx;refine⟨_,?_,out z zv false (rl ρ)⟩;simp only[Instr.lookup,Sem.run_bind,aF aC hu,Result.andThen_ok,Sem.run_pure,dC aC hd hp hk,fT aC hd (rfl:Instr.findNow d k' (#[]:Array MapEntry).toList 0=some none),zr]
     case map id=>
      simp only[ah]at hx;obtain⟨pl,p1,rfl⟩:=hx;cases ho:S.h.get id with
      |none=>simp[ho]at h
      |some o=>
       cases o with
       |row a b c d t=>simp[ho]at h
       |jk x=>simp[ho]at h
       |map es clock=>
        simp only[ho]at h;obtain⟨dK,ES,q1,q2,q3⟩:=hR.iM id _ ho;rw[p1]at q1;cases q1;have hg:(getObj pl.b).run P w=.ok (.map ES clock) w:=by simp[getObj,Sem.run,q2]
        cases hf:fU d k es 0 with
        |none=>simp[hf]at h
        |some r=>
         obtain⟨r',f1,f2⟩:=ur hk es ES.toList 0 r q3 hf;cases r with
         |none=>
          simp only[hf,Option.some.injEq]at h;subst h;cases r' with
          |some _=>exact f2.elim
          |none=>
           refine⟨_,?_,out z zv false (rl ρ)⟩;simp only[Instr.lookup,Sem.run_bind,aF aC hu,Result.andThen_ok,Sem.run_pure,hg,dC aC hd hp hk,fT aC hd f1,zr]
         |some je=>
          obtain⟨j,e⟩:=je;simp only[hf,Option.some.injEq]at h;subst h;cases r' with
          |none=>exact f2.elim
          |some jv=>
           refine⟨_,?_,out e.val jv.2 true f2.2.2.2.1⟩;simp only[Instr.lookup,Sem.run_bind,aF aC hu,Result.andThen_ok,Sem.run_pure,hg,dC aC hd hp hk,fT aC hd f1]
theorem nv{P:Program}{w:World}{b:Nat}{o:Obj}{ES:Array MapEntry}{c:Nat}(h:w.heap[b]?=some (.map ES c)):
  ∃w',(setObj b o).run P w=.ok () w'/\But b w w'/\w'.heap[b]?=some o:=by
 refine⟨{w with heap:=w.heap.setIfInBounds b o},by simp[setObj,Sem.run,h],⟨⟨rfl,rfl,rfl⟩,by simp,fun k hk=>?_⟩,?_⟩
 .simp only[Array.getElem?_setIfInBounds_ne (Ne.symm hk)]
 .have cq:b<w.heap.size:=(Array.getElem?_eq_some_iff.1 h).1;simp[cq]
theorem same_bits{d:TypeDesc}{x y:Value}(h:Instr.sameNow d x y=some true):Instr.sameBits 10000 y x=true:=by
 unfold Instr.sameNow at h;split at h
 .rename_i k a k' b;split at h
  .rename_i hk;subst hk;simp only[Option.some.injEq,beq_iff_eq]at h;subst h;unfold Instr.sameBits;simp
  .cases h
 .simp only[Option.some.injEq]at h;rename_i a b;rw[beq_toListBytes]at h;unfold Instr.sameBits;show (b==a)=true;rw[beq_toListBytes];have:=eq_of_beq h;rw[this];simp
 .simp only[Option.some.injEq,beq_iff_eq]at h;subst h;unfold Instr.sameBits;simp
 .cases h
theorem uK{P:Program}{cx:Cx}(aC:dq Λ P cx){ρ:aO}{S S':AS}{w:World}(hR:R Λ ρ S w){t:TypeId}{x k v u:AV}{x' k' v':Value}
  (h:nh cx S t x k v=some (u,S')) (hx:ah ρ x x') (hk:ah ρ k k') (hv:ah ρ v v') :
  ∃w',(Instr.mapUpdate t x' k' v').run P w=.ok () w'/\u=.undef/\R Λ ρ S' w'/\Kp ρ S w ρ S' w':=by
 unfold nh at h;cases hu:bC cx t with
 |none=>rw[hu]at h;cases x<;>simp at h
 |some dt=>
  rw[hu]at h;cases x with
  |map id=>
   cases dt<;>simp only[reduceCtorEq]at h;rename_i kt et;cases hd:bC cx kt with
   |none=>simp[hd]at h
   |some d=>
    simp only[hd]at h;cases hp:plainKey d k with
    |false=>simp[hp]at h
    |true=>
     simp only[hp,cond_true]at h;simp only[ah]at hx;obtain⟨pl,p1,rfl⟩:=hx;cases ho:S.h.get id with
     |none=>simp[ho]at h
     |some o=>
      cases o with
      |row a b c d t=>simp[ho]at h
      |jk x=>simp[ho]at h
      |map es clock=>
       simp only[ho]at h;obtain⟨dK,ES,q1,q2,q3⟩:=hR.iM id _ ho;rw[p1]at q1;cases q1;have hg:(getObj pl.b).run P w=.ok (.map ES clock) w:=by simp[getObj,Sem.run,q2]
       cases hf:fU d k es 0 with
       |none=>simp[hf]at h
       |some r=>
        obtain⟨r',f1,f2⟩:=ur hk es ES.toList 0 r q3 hf;cases r with
        |none=>
         simp only[hf,Option.some.injEq,Prod.mk.injEq,bz]at h;obtain⟨rfl,rfl⟩:=h;cases r' with
         |some _=>exact f2.elim
         |none=>
          obtain⟨w',s1,s2,s3⟩:=nv (P:=P) (o:=.map (ES.push {key:=k',val:=v',born:=clock}) (clock+1)) q2;obtain⟨t1,t2⟩:=hR.A6 (es:=es++[⟨k,v,clock⟩]) ho (by intro a b c d t e;cases e) p1 s2 s3 (by
           refine⟨by simp[q3.1],fun i e m he hm=>?_⟩;rw[Array.toList_push]at hm;by_cases hi:i<es.length
           .rw[List.getElem?_append_left hi]at he;rw[List.getElem?_append_left (by rw[<-q3.1];exact hi)]at hm;exact q3.2 i e m he hm
           .have hl:=q3.1;rw[List.getElem?_append_right (by omega)]at he;rw[List.getElem?_append_right (by omega)]at hm;have hi0:i-es.length=0:=by
             rcases Nat.eq_zero_or_pos (i-es.length)with h0|h0
             .exact h0
             .rw[List.getElem?_eq_none (by simp;omega)]at he;cases he
            have BP:i-ES.toList.length=0:=by omega
            rw[hi0]at he;rw[BP]at hm;simp at he hm;subst he hm;exact⟨hk,hv,rfl⟩)
          refine⟨w',?_,rfl,t1,t2⟩;simp only[Instr.mapUpdate,Sem.run_bind,aF aC hu,Result.andThen_ok,hg,dC aC hd hp hk,fT aC hd f1,s1]
        |some je=>
         obtain⟨j,e⟩:=je;simp only[hf,Option.some.injEq,Prod.mk.injEq,setNth_eq]at h;obtain⟨rfl,rfl⟩:=h;cases r' with
         |none=>exact f2.elim
         |some jv=>
          obtain⟨j',vv⟩:=jv;obtain⟨rfl,_,hej,_,hsame⟩:=f2;simp only[Nat.sub_zero]at hej;have hjl:j<es.length:=by
           rcases Nat.lt_or_ge j es.length with h0|h0
           .exact h0
           .rw[List.getElem?_eq_none h0]at hej;cases hej
          have hjl':j<ES.toList.length:=by rw[<-q3.1];exact hjl
          have hm:ES.toList[j]?=some ES.toList[j]:=List.getElem?_eq_getElem hjl';obtain⟨hkk,hvv,sf⟩:=q3.2 j e _ hej hm;have hms:ES[j]?=some ES.toList[j]:=by rw[<-Array.getElem?_toList];exact hm
          have hbits:=same_bits (zB hsame hk hkk);have hstay:(Instr.keyThatStays (((ES[j]?).map (·.key)).getD k') k').run P w=.ok k' w:=by
           rw[hms];simp only[Option.map_some,Option.getD_some,Instr.keyThatStays,hbits,if_true,Sem.run_pure]
          obtain⟨w',s1,s2,s3⟩:=nv (P:=P) (o:=.map (ES.modify j fun e=>{e with key:=k',val:=v'}) clock) q2;obtain⟨t1,t2⟩:=hR.A6 (es:=es.set j ⟨k,v,e.born⟩) ho (by intro a b c d t e;cases e) p1 s2 s3 (by
           refine⟨by simp[q3.1],fun i e2 m he CP=>?_⟩;rw[Array.getElem?_toList,Array.getElem?_modify]at CP;by_cases pD:j=i
           .subst pD;rw[List.getElem?_set_self hjl]at he;rw[if_pos rfl,hms]at CP;simp at he CP;subst he CP;exact⟨hk,hv,sf⟩
           .rw[List.getElem?_set_ne pD]at he;rw[if_neg pD,<-Array.getElem?_toList]at CP;exact q3.2 i e2 m he CP)
          refine⟨w',?_,rfl,t1,t2⟩;simp only[Instr.mapUpdate,Sem.run_bind,aF aC hu,Result.andThen_ok,hg,dC aC hd hp hk,fT aC hd f1,hstay,s1]
  |_=>cases dt<;>simp at h
theorem eraseN_eq{α:Type}:∀(n:Nat)(l:List α),uw n l=l.eraseIdx n:=by
 intro n;induction n with
 |zero=>intro l;cases l<;>rfl
 |succ n ih=>intro l;cases l with
  |nil=>rfl
  |cons x l=>show x::uw n l=_;rw[ih];rfl
theorem Fc{P:Program}{cx:Cx}(aC:dq Λ P cx){ρ:aO}{S S':AS}{w:World}(hR:R Λ ρ S w){ts:Array TypeId}{t ty:TypeId}{x k u:AV}{x' k':Value}
  (h:qA cx S t x k=some (u,S')) (ht:ts[0]?=some t) (hx:ah ρ x x') (hk:ah ρ k k') :
  ∃w',(Builtin.delete_ ts ty #[x',k']).run P w=.ok undef w'/\u=.undef/\R Λ ρ S' w'/\Kp ρ S w ρ S' w':=by
 unfold qA at h;cases hu:bC cx t with
 |none=>rw[hu]at h;cases h
 |some dt=>
  rw[hu]at h;cases dt<;>simp only[reduceCtorEq]at h;rename_i kt et;cases hd:bC cx kt with
  |none=>simp[hd]at h
  |some d=>
   simp only[hd]at h;cases hp:plainKey d k with
   |false=>simp[hp]at h
   |true=>
    simp only[hp,cond_true]at h;cases x<;>simp only[reduceCtorEq]at h
    case jl=>
     cases h;simp only[ah]at hx;subst hx;refine⟨w,?_,rfl,hR,Kp.refl _ _ _⟩;simp only[Builtin.delete_,ht,List.getElem?_toArray,List.getElem?_cons_zero,List.getElem?_cons_succ,Sem.run_bind,aF aC hu,Result.andThen_ok,dC aC hd hp hk,Sem.run_pure];rfl
    case map id=>
     simp only[ah]at hx;obtain⟨pl,p1,rfl⟩:=hx;cases ho:S.h.get id with
     |none=>simp[ho]at h
     |some o=>
      cases o with
      |row a b c d t=>simp[ho]at h
      |jk x=>simp[ho]at h
      |map es clock=>
       simp only[ho]at h;obtain⟨dK,ES,q1,q2,q3⟩:=hR.iM id _ ho;rw[p1]at q1;cases q1;have hg:(getObj pl.b).run P w=.ok (.map ES clock) w:=by simp[getObj,Sem.run,q2]
       cases hf:fU d k es 0 with
       |none=>simp[hf]at h
       |some r=>
        obtain⟨r',f1,f2⟩:=ur hk es ES.toList 0 r q3 hf;cases r with
        |none=>
         simp only[hf,Option.some.injEq,Prod.mk.injEq]at h;obtain⟨rfl,rfl⟩:=h;cases r' with
         |some _=>exact f2.elim
         |none=>
          obtain⟨w',s1,s2,s3⟩:=nv (P:=P) (o:=.map ES clock) q2;obtain⟨t1,t2⟩:=hR.A6 (es:=es) ho (by intro a b c d t e;cases e) p1 s2 s3 q3;refine⟨w',?_,rfl,t1,t2⟩;simp only[Builtin.delete_,ht,List.getElem?_toArray,List.getElem?_cons_zero,List.getElem?_cons_succ,Sem.run_bind,aF aC hu,Result.andThen_ok,hg,dC aC hd hp hk,fT aC hd f1,s1,Sem.run_pure];rfl
        |some je=>
         obtain⟨j,e⟩:=je;simp only[hf,Option.some.injEq,Prod.mk.injEq,eraseN_eq]at h;obtain⟨rfl,rfl⟩:=h;cases r' with
         |none=>exact f2.elim
         |some jv=>
          obtain⟨j',vv⟩:=jv;obtain⟨rfl,_,_,_,_⟩:=f2;obtain⟨w',s1,s2,s3⟩:=nv (P:=P) (o:=.map (ES.eraseIdxIfInBounds j) clock) q2;have hel:(ES.eraseIdxIfInBounds j).toList=ES.toList.eraseIdx j:=by simp
          obtain⟨t1,t2⟩:=hR.A6 (es:=es.eraseIdx j) ho (by intro a b c d t e;cases e) p1 s2 s3 (by
           rw[hel];refine⟨by rw[List.length_eraseIdx,List.length_eraseIdx,q3.1],fun i e2 m he CP=>?_⟩;rw[List.getElem?_eraseIdx]at he CP;by_cases pD:i<j
           .rw[if_pos pD]at he CP;exact q3.2 i e2 m he CP
           .rw[if_neg pD]at he CP;exact q3.2 _ e2 m he CP)
          refine⟨w',?_,rfl,t1,t2⟩;simp only[Builtin.delete_,ht,List.getElem?_toArray,List.getElem?_cons_zero,List.getElem?_cons_succ,Sem.run_bind,aF aC hu,Result.andThen_ok,hg,dC aC hd hp hk,fT aC hd f1,s1,Sem.run_pure];rfl
theorem Aj{P:Program}(mx:Bool):∀(l:List AV)(ρ:aO)(k:IntKind)(n:Int)(v:AV)(l':List Value),foldI (if mx then (fun n m=>!ltI n m) else (fun n m=>!ltI m n)) k n l=some v->au ρ l l' ->
  ∀w,∃z,(l'.foldlM (if mx then Builtin.max2 else Builtin.min2) (.int k n)).run P w=.ok z w/\ah ρ v z:=by
 intro l
 induction l with
 |nil=>
  intro ρ k n v l' h hl w;simp only[au]at hl;subst hl;simp only[foldI,Option.some.injEq]at h;subst h;exact⟨_,rfl,by simp[ah]⟩
 |cons x l ih=>
  intro ρ k n v l' h hl w;simp only[au]at hl;obtain⟨y,ys,rfl,hy,hys⟩:=hl;cases x<;>simp only[foldI,reduceCtorEq]at h;rename_i j m;simp only[ah]at hy;subst hy;rw[cR]at h;by_cases hj:j=k
  .rw[decide_eq_true hj]at h;subst hj;simp only[cond_true]at h;obtain⟨z,r1,r2⟩:=ih ρ j _ v ys h hys w;refine⟨z,?_,r2⟩;simp only[List.foldlM_cons,Sem.run_bind];cases mx with
   |true=>
    simp only[if_true]at r1⊢;simp only[Builtin.max2,Sem.run_pure,Result.andThen_ok];have e:(if m > n then m else n)=(bif !ltI n m then n else m):=by
     rw[lC];by_cases hc:n<m
     .rw[if_pos hc,decide_eq_true hc];rfl
     .rw[if_neg hc,decide_eq_false hc];rfl
    rw[e];exact r1
   |false=>
    simp only[Bool.false_eq_true,if_false]at r1⊢;simp only[Builtin.min2,Sem.run_pure,Result.andThen_ok];have e:(if m<n then m else n)=(bif !ltI m n then n else m):=by
     rw[lC];by_cases hc:m<n
     .rw[if_pos hc,decide_eq_true hc];rfl
     .rw[if_neg hc,decide_eq_false hc];rfl
    rw[e];exact r1
  .rw[decide_eq_false hj]at h;cases h
end Go.Am
