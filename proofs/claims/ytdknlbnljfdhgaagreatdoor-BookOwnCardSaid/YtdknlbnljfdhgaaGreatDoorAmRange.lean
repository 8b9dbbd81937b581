/-
  The abstract machine against the model: entries by their stamps, iterators.
-/
import Derived.Test.YtdknlbnljfdhgaaGreatDoorAmMore
namespace Go.Am
open Go
variable {Λ:LB}
theorem ur {P:Program} {w:World} {b:Nat} {o x:Obj} (h:w.heap[b]?=some x) (hx:∀ c e f,x≠.cells c e f) :
  ∃ w',(setObj b o).run P w=.ok () w'∧But b w w'∧w'.heap[b]?=some o:=by
 refine ⟨{ w with heap:=w.heap.setIfInBounds b o },?_,⟨⟨rfl,rfl,rfl⟩,by simp,fun k hk=>?_⟩,?_⟩
 ·cases x<;>first|exact absurd rfl (hx _ _ _)|simp[setObj,Sem.run,h]
 ·simp only[Array.getElem?_setIfInBounds_ne (Ne.symm hk)]
 ·have bK:b<w.heap.size:=(Array.getElem?_eq_some_iff.1 h).1;simp[bK]
theorem kV {P:Program} {w:World} {b:Nat} {x:Obj} (h:w.heap[b]?=some x) (hx:∀ c e f,x≠.cells c e f):(getObj b).run P w=.ok x w:=by
 cases x<;>first|exact absurd rfl (hx _ _ _)|simp[getObj,Sem.run,h]
theorem CZ {P:Program} {w:World} (o:Obj):∃ w',(newObj o).run P w=.ok w.heap.size w'∧iT o w w':=
 ⟨{ w with heap:=w.heap.push o },by simp[newObj,Sem.run],⟨⟨rfl,rfl,rfl⟩,rfl⟩⟩
theorem ez.nil {ρ:aI}:ez ρ [] []:=⟨rfl,fun i e m h=>by simp at h⟩
theorem ez.cons {ρ:aI} {e:bj} {m:MapEntry} {es:List bj} {ms:List MapEntry} (h:ah ρ e.key m.key∧ah ρ e.val m.val∧e.born=m.born) (t:ez ρ es ms):ez ρ (e :: es) (m :: ms):=by
 refine ⟨by simp[t.1],fun i x y hx hy=>?_⟩;cases i with
 | zero=>simp at hx hy;subst hx hy;exact h
 | succ i=>exact t.2 i x y (by simpa using hx) (by simpa using hy)
theorem ez.AB {ρ:aI} {e:bj} {es:List bj} {l:List MapEntry} (h:ez ρ (e :: es) l):∃ m ms,l=m :: ms∧(ah ρ e.key m.key∧ah ρ e.val m.val∧e.born=m.born)∧ez ρ es ms:=by
 obtain ⟨h1,h2⟩:=h;cases l with
 | nil=>simp at h1
 | cons m ms=>exact ⟨m,ms,rfl,h2 0 e m rfl rfl,by simpa using h1,fun i x y hx hy=>h2 (i+1) x y (by simpa using hx) (by simpa using hy)⟩
theorem ez.empty {ρ:aI} {l:List MapEntry} (h:ez ρ [] l):l=[]:=by
 obtain ⟨h1,_⟩:=h;cases l with
 | nil=>rfl
 | cons m ms=>simp at h1
theorem ez.filter {ρ:aI} {p:bj→Bool} {q:MapEntry→Bool} (Ea:∀ e m,e.born=m.born→p e=q m):∀ {es:List bj} {ms:List MapEntry},ez ρ es ms→ez ρ (es.filter p) (ms.filter q)
 | [],ms,h=>by rw[h.empty];exact .nil
 | e :: es,l,h=>by
  obtain ⟨m,ms,rfl,h1,h2⟩:=h.AB;have ih:=ez.filter Ea h2;have hb:=Ea e m h1.2.2;cases hp:p e with
  | true=>rw[List.filter_cons_of_pos hp,List.filter_cons_of_pos (by rw[←hb];exact hp)];exact .cons h1 ih
  | false=>rw[List.filter_cons_of_neg (by simp[hp]),List.filter_cons_of_neg (by rw[←hb,hp];simp)];exact ih
theorem ez.append {ρ:aI}:∀ {es:List bj} {ms:List MapEntry} {es':List bj} {ms':List MapEntry},ez ρ es ms→ez ρ es' ms'→ez ρ (es++es') (ms++ms')
 | [],ms,es',ms',h,h'=>by rw[h.empty];simpa using h'
 | e :: es,l,es',ms',h,h'=>by
  obtain ⟨m,ms,rfl,h1,h2⟩:=h.AB;exact .cons h1 (ez.append h2 h')
theorem ez.all {ρ:aI} {p:bj→Bool} {q:MapEntry→Bool} (Ea:∀ e m,e.born=m.born→p e=q m):∀ {es:List bj} {ms:List MapEntry},ez ρ es ms→es.all p=ms.all q
 | [],ms,h=>by rw[h.empty];rfl
 | e :: es,l,h=>by
  obtain ⟨m,ms,rfl,h1,h2⟩:=h.AB;simp only[List.all_cons,Ea e m h1.2.2,ez.all Ea h2]
theorem ez.get {ρ:aI} {es:List bj} {ms:List MapEntry} (h:ez ρ es ms) {i:Nat} {m:MapEntry} (hm:ms[i]?=some m):∃ e,es[i]?=some e∧ah ρ e.key m.key∧ah ρ e.val m.val∧e.born=m.born:=by
 have hi:i<es.length:=by
  rw[h.1];rcases Nat.lt_or_ge i ms.length with h1|h1
  ·exact h1
  ·rw[List.getElem?_eq_none h1] at hm;cases hm
 exact ⟨es[i],List.getElem?_eq_getElem hi,h.2 i _ m (List.getElem?_eq_getElem hi) hm⟩
theorem findB_cons (b:Nat) (e:bj) (es:List bj) (i:Nat):oF b (e :: es) i=if e.born=b then some (i,e) else oF b es (i+1):=by
 show cond (Nat.beq e.born b) (some (i,e)) (oF b es (Nat.succ i))=_;rw[bf];by_cases h:e.born=b<;>simp[h]
theorem tL {ρ:aI} {b:Nat}:∀ {es:List bj} {ms:List MapEntry} {i j:Nat} {e:bj},ez ρ es ms→oF b es i=some (j,e) →
  ∃ m,ms.find? (fun m=>m.born == b)=some m∧ms.findIdx? (fun m=>m.born == b)=some (j-i)∧i≤j∧es[j-i]?=some e∧ms[j-i]?=some m∧ah ρ e.key m.key∧ah ρ e.val m.val∧e.born=m.born
 | [],ms,i,j,e,_,h=>by cases h
 | x :: es,l,i,j,e,hE,h=>by
  obtain ⟨m,ms,rfl,h1,h2⟩:=hE.AB;rw[findB_cons] at h;by_cases hb:x.born=b
  ·rw[if_pos hb] at h;cases h;have hmb:(m.born == b)=true:=by rw[←h1.2.2,hb];simp
   exact ⟨m,by simp[hmb],by rw[List.findIdx?_cons];simp[hmb],Nat.le_refl _,by simp,by simp,h1⟩
  ·rw[if_neg hb] at h;obtain ⟨m',r1,r2,r3,r4,r5,r6⟩:=tL h2 h;have hmb:(m.born == b)=false:=by rw[←h1.2.2];simp[hb]
   obtain ⟨k,rfl⟩:∃ k,j=i+1+k:=⟨j-(i+1),by omega⟩
   have e1:i+1+k-(i+1)=k:=by omega
   have e2:i+1+k-i=k+1:=by omega
   rw[e1] at r2 r4 r5;exact ⟨m',by simp[hmb,r1],by rw[List.findIdx?_cons,e2];simp[hmb,r2],by omega,by rw[e2];simpa using r4,by rw[e2];simpa using r5,r6⟩
theorem ez.set {ρ:aI} {es:List bj} {ES:Array MapEntry} (h:ez ρ es ES.toList) {j:Nat} {e:bj} (hj:j<es.length) {f:MapEntry→MapEntry}
  (hf:∀ m,ES.toList[j]?=some m→ah ρ e.key (f m).key∧ah ρ e.val (f m).val∧e.born=(f m).born):ez ρ (es.set j e) (ES.modify j f).toList:=by
 refine ⟨by simpa using h.1,fun i x y hx hy=>?_⟩;rw[Array.getElem?_toList,Array.getElem?_modify] at hy;by_cases gO:j=i
 ·subst gO;rw[List.getElem?_set_self hj] at hx;cases hx;rw[if_pos rfl,←Array.getElem?_toList] at hy;cases hm:ES.toList[j]? with
  | none=>rw[hm] at hy;cases hy
  | some m=>rw[hm] at hy;cases hy;exact hf m hm
 ·rw[List.getElem?_set_ne gO] at hx;rw[if_neg gO,←Array.getElem?_toList] at hy;exact h.2 i x y hx hy
theorem ez.push {ρ:aI} {es:List bj} {ES:Array MapEntry} (h:ez ρ es ES.toList) {e:bj} {m:MapEntry} (hm:ah ρ e.key m.key∧ah ρ e.val m.val∧e.born=m.born):ez ρ (es++[e]) (ES.push m).toList:=by
 rw[Array.toList_push];exact h.append (.cons hm .nil)
theorem tH (ρ:aI) (n:Nat):ah ρ (.int .i64 (.ofNat n)) (goInt n):=by simp[ah,goInt]
theorem wI {ρ:aI} {a b:AV} {x y:Value} (h:ah ρ a x) (k:ah ρ b y):ah ρ (.tuple [a,b]) (.tuple #[x,y]):=by
 simp only[ah];exact ⟨_,rfl,au.cons h (au.cons k au.nil)⟩
theorem EH {P:Program} {cx:Cx} (az:cX Λ P cx) {ρ:aI} {S S':AS} {w:World} (hR:R Λ ρ S w) {t:TypeId} {x k u:AV} {x' k':Value}
  (h:vF cx S t x k=some (u,S')) (hx:ah ρ x x') (hk:ah ρ k k'):oS Λ P ρ S w (Instr.mapEntry t x' k') u S':=by
 unfold vF at h;cases hu:aY cx t with
 | none=>rw[hu] at h;cases x<;>simp at h
 | some dt=>
  rw[hu] at h;cases x with
  | map id=>
   cases dt<;>simp only[reduceCtorEq] at h;rename_i kt et;cases hd:aY cx kt with
   | none=>simp[hd] at h
   | some d=>
   cases hz:zeroOf cx et with
   | none=>simp[hd,hz] at h
   | some z=>
    simp only[hd,hz] at h;cases hp:plainKey d k with
    | false=>simp[hp] at h
    | true=>
     simp only[hp,cond_true] at h;simp only[ah] at hx;obtain ⟨pl,p1,rfl⟩:=hx;obtain ⟨zv,zr,lH⟩:=gP az hz;cases ho:S.h.get id with
     | none=>simp[ho] at h
     | some o=>
      cases o with
      | row a b c d t=>simp[ho] at h
      | dO x=>simp[ho] at h
      | map es clock=>
       simp only[ho] at h;obtain ⟨df,ES,q1,q2,q3⟩:=hR.fi id _ ho;rw[p1] at q1;cases q1;have hg:(getObj pl.b).run P w=.ok (.map ES clock) w:=by simp[getObj,Sem.run,q2]
       cases hf:fE d k es 0 with
       | none=>simp[hf] at h
       | some r=>
        obtain ⟨r',f1,f2⟩:=pC hk es ES.toList 0 r q3 hf;cases r with
        | none=>
         simp only[hf,Option.some.injEq,Prod.mk.injEq,bw] at h;obtain ⟨rfl,rfl⟩:=h;cases r' with
         | some _=>exact f2.elim
         | none=>
          obtain ⟨w',s1,s2,s3⟩:=hY (P:=P) (o:=.map (ES.push { key:=k',val:=zv,born:=clock }) (clock+1)) q2;obtain ⟨t1,t2⟩:=hR.qG (es:=es++[⟨k,z,clock⟩]) ho (by intro a b c d t e;cases e) p1 s2 s3 (q3.push ⟨hk,lH ρ,rfl⟩);refine ⟨_,ρ,w',?_,wI (lH ρ) (tH ρ clock),t1,t2⟩;simp only[Instr.mapEntry,Sem.run_bind,aB az hu,Result.andThen_ok,hg,cF az hd hp hk,eG az hd f1,zr,s1,Sem.run_pure]
        | some je=>
         obtain ⟨j,e⟩:=je;simp only[hf,Option.some.injEq,Prod.mk.injEq,sX] at h;obtain ⟨rfl,rfl⟩:=h;cases r' with
         | none=>exact f2.elim
         | some jv=>
          obtain ⟨j',vv⟩:=jv;obtain ⟨rfl,_,hej,hvv0,xl⟩:=f2;simp only[Nat.sub_zero] at hej;have hjl:j<es.length:=by
           rcases Nat.lt_or_ge j es.length with h0|h0
           ·exact h0
           ·rw[List.getElem?_eq_none h0] at hej;cases hej
          have hjl':j<ES.toList.length:=by rw[←q3.1];exact hjl
          have hm:ES.toList[j]?=some ES.toList[j]:=List.getElem?_eq_getElem hjl';obtain ⟨hkk,hvv,nv⟩:=q3.2 j e _ hej hm;have hms:ES[j]?=some ES.toList[j]:=by rw[←Array.getElem?_toList];exact hm
          have hbits:=zw (sZ xl hk hkk);have hstay:(Instr.keyThatStays (((ES[j]?).map (·.key)).getD k') k').run P w=.ok k' w:=by
           rw[hms];simp only[Option.map_some,Option.getD_some,Instr.keyThatStays,hbits,if_true,Sem.run_pure]
          obtain ⟨w',s1,s2,s3⟩:=hY (P:=P) (o:=.map (ES.modify j fun e=>{ e with key:=k' }) clock) q2;obtain ⟨t1,t2⟩:=hR.qG (es:=es.set j ⟨k,e.val,e.born⟩) ho (by intro a b c d t e;cases e) p1 s2 s3 (q3.set hjl fun m fg=>by
           rw[hm] at fg;cases fg;exact ⟨hk,hvv,nv⟩)
          refine ⟨_,ρ,w',?_,wI hvv0 (tH ρ e.born),t1,t2⟩;simp only[Instr.mapEntry,Sem.run_bind,aB az hu,Result.andThen_ok,hg,cF az hd hp hk,eG az hd f1,hstay,s1,Sem.run_pure];rw[hms];simp only[Option.map_some,Option.getD_some,nv]
  | _=>cases dt<;>simp at h
theorem EG {P:Program} {ρ:aI} {S S':AS} {w:World} (hR:R Λ ρ S w) {t:TypeId} {x k v u:AV} {x' k' v':Value}
  (h:vE S x k v=some (u,S')) (hx:ah ρ x x') (hk:ah ρ k k') (hv:ah ρ v v') :
  ∃ w',(Instr.entryStore t x' k' v').run P w=.ok () w'∧u=.undef∧R Λ ρ S' w'∧Kp ρ S w ρ S' w':=by
 unfold vE at h;split at h
 ·rename_i id kd b;simp only[ah] at hx hk;obtain ⟨pl,p1,rfl⟩:=hx;subst hk;cases ho:S.h.get id with
  | none=>simp[ho] at h
  | some o=>
   cases o with
   | row a b c d t=>simp[ho] at h
   | dO x=>simp[ho] at h
   | map es clock=>
    simp only[ho] at h;obtain ⟨df,ES,q1,q2,q3⟩:=hR.fi id _ ho;rw[p1] at q1;cases q1;have hg:(getObj pl.b).run P w=.ok (.map ES clock) w:=by simp[getObj,Sem.run,q2]
    cases hf:oF b es 0 with
    | none=>simp[hf] at h
    | some r=>
     obtain ⟨i,e⟩:=r;simp only[hf,Option.some.injEq,Prod.mk.injEq,sX] at h;obtain ⟨rfl,rfl⟩:=h;obtain ⟨m,r1,r2,r3,r4,r5,r6,r7,r8⟩:=tL q3 hf;simp only[Nat.sub_zero] at r2 r4 r5;have hjl:i<es.length:=by
      rcases Nat.lt_or_ge i es.length with h0|h0
      ·exact h0
      ·rw[List.getElem?_eq_none h0] at r4;cases r4
     obtain ⟨w',s1,s2,s3⟩:=hY (P:=P) (o:=.map (ES.modify i fun e=>{ e with val:=v' }) clock) q2;obtain ⟨t1,t2⟩:=hR.qG (es:=es.set i ⟨e.key,v,e.born⟩) ho (by intro a b c d t e;cases e) p1 s2 s3 (q3.set hjl fun m' fg=>by
      rw[r5] at fg;cases fg;exact ⟨r6,hv,r8⟩)
     refine ⟨w',?_,rfl,t1,t2⟩;have hidx:ES.findIdx? (fun e=>(e.born:Int) == (b:Int))=some i:=by
      have e1:ES.findIdx? (fun e=>(e.born:Int) == (b:Int))=ES.toList.findIdx? (fun e=>(e.born:Int) == (b:Int)):=by
       rw[←List.findIdx?_toArray]
      rw[e1,←r2];have e2:(fun e:MapEntry=>(e.born:Int) == (b:Int))=fun m=>m.born == b:=by
       funext m;by_cases hmb:m.born=b
       ·rw[hmb];simp
       ·have h1:¬(m.born:Int)=(b:Int):=by omega
        rw[beq_eq_false_iff_ne.2 hmb,beq_eq_false_iff_ne.2 h1]
      rw[e2]
     simp only[Instr.entryStore,Sem.run_bind,Sem.run_pure,Result.andThen_ok,hg,asInt,asIntOf,Int.ofNat_eq_natCast,hidx];exact s1
 ·cases h
theorem rangeV_run {P:Program} {cx:Cx} (az:cX Λ P cx) {ρ:aI} {S S':AS} {w:World} (hR:R Λ ρ S w) {t:TypeId} {x u:AV} {x':Value}
  (h:qK cx S t x=some (u,S')) (hx:ah ρ x x'):oS Λ P ρ S w (Instr.range t x') u S':=by
 have key : ∀ (y : zo) (o : Obj), iv ρ y o → (Instr.range t x').run P w = ((do pure (.pointer (some ⟨← newObj o, 0, none⟩))) : Sem Value).run P w → u = .ptr S.next 0 0 0 → S' = ⟨S.h.set S.next (.dO y), Nat.succ S.next⟩ →
   oS Λ P ρ S w (Instr.range t x') u S':=by
  intro y o hy ma hu hS;subst hu hS;obtain ⟨w',r1,r2⟩:=CZ (P:=P) (w:=w) o;obtain ⟨ρ',pl,p1,p2,p3,p6,p7⟩:=hR.Be r2 hy;refine ⟨.pointer (some ⟨w.heap.size,0,none⟩),ρ',w',?_,?_,p6,p7⟩
  ·rw[ma];simp only[Sem.run_bind,r1,Result.andThen_ok,Sem.run_pure]
  ·simp only[ah];exact ⟨_,p1,Nat.zero_le _,by rw[p2,p3]⟩
 unfold qK at h;cases hu:aY cx t with
 | none=>rw[hu] at h;cases x<;>simp at h
 | some dt=>
  rw[hu] at h;split at h
  ·rename_i he;cases he;rename_i s;cases h;simp only[ah] at hx;obtain ⟨b,rfl,hb⟩:=hx;exact key (.um s 0) (.stringIter b 0) ⟨b,rfl,hb⟩ (by simp only[Instr.range,Sem.run_bind,aB az hu,Result.andThen_ok,Sem.run_pure]) rfl rfl
  ·rename_i kt et he;cases he;cases h;simp only[ah] at hx;subst hx;exact key (.iter none 0 [] 0) (.mapIter none 0 #[] 0) ⟨_,_,_,rfl⟩ (by simp only[Instr.range,Sem.run_bind,aB az hu,Result.andThen_ok,Sem.run_pure]) rfl rfl
  ·rename_i kt et id he;cases he;simp only[ah] at hx;obtain ⟨pl,p1,rfl⟩:=hx;cases ho:S.h.get id with
   | none=>simp[ho] at h
   | some o=>
    cases o with
    | row a b c d t=>simp[ho] at h
    | dO x=>simp[ho] at h
    | map es clock=>
     simp only[ho] at h;cases h;obtain ⟨df,ES,q1,q2,q3⟩:=hR.fi id _ ho;rw[p1] at q1;cases q1;have hg:(getObj pl.b).run P w=.ok (.map ES clock) w:=by simp[getObj,Sem.run,q2]
     exact key (.iter (some id) clock [] clock) (.mapIter (some pl.b) clock #[] clock) ⟨pl,#[],p1,rfl,rfl⟩ (by simp only[Instr.range,Sem.run_bind,aB az hu,Result.andThen_ok,Sem.run_pure,hg]) rfl rfl
  ·cases h
theorem decode_ascii {b:ByteArray} {s:List Nat} {pos c:Nat} (hb:b.data.toList.map UInt8.toNat=s) (h:s[pos]?=some c) (hc:c<128):pos<b.size∧Utf8.decode b pos=(c,1):=by
 subst hb;rw[List.getElem?_map] at h;cases hx:b.data.toList[pos]? with
 | none=>rw[hx] at h;cases h
 | some x=>
  rw[hx] at h;simp only[Option.map_some,Option.some.injEq] at h;have bK:pos<b.data.size:=by
   rw[Array.getElem?_toList] at hx;exact (Array.getElem?_eq_some_iff.1 hx).1
  have fU:b.get! pos=x:=by
   have h1:b.get! pos=b.data[pos]!:=by cases b;rfl
   rw[h1,getElem!_pos b.data pos bK];rw[Array.getElem?_toList,Array.getElem?_eq_getElem bK] at hx;exact Option.some.inj hx
  refine ⟨bK,?_⟩;simp only[Utf8.decode,Nat.add_zero,fU,h,if_pos hc]
theorem past_size {b:ByteArray} {s:List Nat} {pos:Nat} (hb:b.data.toList.map UInt8.toNat=s) (h:s[pos]?=none):¬pos<b.size:=by
 subst hb;rw[List.getElem?_eq_none_iff] at h;simp only[List.length_map,Array.length_toList] at h;show ¬pos<b.data.size;omega
theorem pn {ρ:aI} {S:AS} {w:World} (hR:R Λ ρ S w) {id ay:Nat} {x':Value} {y:zo} (hx:ah ρ (.ptr id 0 0 ay) x') (ho:S.h.get id=some (.dO y)) :
  ∃ pl o,ρ id 0=some pl∧pl.base=0∧x'=.pointer (some ⟨pl.b,0,none⟩)∧w.heap[pl.b]?=some o∧iv ρ y o:=by
 simp only[ah] at hx;obtain ⟨pl,p1,_,rfl⟩:=hx;obtain ⟨df,o,q1,q2,q3,q4⟩:=hR.fi id _ ho;rw[p1] at q1;cases q1;exact ⟨pl,o,p1,q4,by rw[q4],q2,q3⟩
theorem wK (ρ:aI):ah ρ (.tuple [.bool false]) (.tuple #[.bool false]):=by
 simp only[ah];exact ⟨_,rfl,au.cons (by simp[ah]) au.nil⟩
theorem nextV_val {P:Program} {ρ:aI} {S S':AS} {w:World} (hR:R Λ ρ S w) {x u:AV} {x':Value} {str:Bool} {ty:TypeId} (h:lU S x str=.val u S') (hx:ah ρ x x') :
  oS Λ P ρ S w (Instr.next x' str ty) u S':=by
 unfold lU at h;split at h
 ·rename_i id ay;split at h
  ·rename_i s pos ho;obtain ⟨pl,o,p1,p2,rfl,p4,b,rfl,hb⟩:=pn hR hx ho;have hg:=kV (P:=P) p4 (by intro _ _ _ e;cases e);cases str with
   | false=>cases h
   | true=>
    simp only[cond_true,gf] at h;cases hp:s[pos]? with
    | none=>
     rw[hp] at h;cases h;refine ⟨_,ρ,w,?_,wK ρ,hR,Kp.refl _ _ _⟩;simp only[Instr.next,Sem.run_bind,Sem.run_pure,Result.andThen_ok,hg,if_neg (past_size hb hp)]
    | some c=>
     rw[hp] at h;simp only[gI] at h;by_cases hc:c<128
     ·rw[decide_eq_true hc] at h;cases h;obtain ⟨d1,d2⟩:=decode_ascii hb hp hc;obtain ⟨w',s1,s2,s3⟩:=ur (P:=P) (o:=.stringIter b (pos+1)) p4 (by intro _ _ _ e;cases e);obtain ⟨t1,t2⟩:=hR.AL (x:=.um s (pos+1)) ho (by intro a b c d t e;cases e) p1 s2 s3 ⟨b,rfl,hb⟩ p2;refine ⟨.tuple #[.bool true,goInt pos,.int .i32 (c:Int)],ρ,w',?_,?_,t1,t2⟩
      ·simp only[Instr.next,Sem.run_bind,Sem.run_pure,Result.andThen_ok,hg,if_pos d1,d2,s1]
      ·simp only[ah];exact ⟨_,rfl,au.cons (by simp[ah]) (au.cons (tH ρ pos) (au.cons (by simp[ah]) au.nil))⟩
     ·rw[decide_eq_false hc] at h;cases h
  ·rename_i a b c ho;obtain ⟨pl,o,p1,p2,rfl,p4,a',b',c',rfl⟩:=pn hR hx ho;have hg:=kV (P:=P) p4 (by intro _ _ _ e;cases e);cases str with
   | true=>cases h
   | false=>
    cases h;refine ⟨_,ρ,w,?_,wK ρ,hR,Kp.refl _ _ _⟩;simp only[Instr.next,Sem.run_bind,Sem.run_pure,Result.andThen_ok,hg]
  ·rename_i m since seen last ho;cases str with
   | true=>cases h
   | false=>
    simp only[cond_false] at h;split at h<;>cases h
  ·cases h
 ·cases h
theorem emp_len {α β:Type} {a:List α} {b:Array β} (h:a.length=b.toList.length):a.isEmpty=b.isEmpty:=by
 cases a with
 | nil=>
  have:b.size=0:=by simpa using h.symm
  simp[Array.isEmpty,this]
 | cons x l=>
  have:b.size≠0:=by
   intro e;have h2:b.toList.length=b.size:=Array.length_toList;have h3:(x :: l).length=l.length+1:=rfl;omega
  simp[Array.isEmpty,this]
theorem choose_map {P:Program} {ρ:aI} {S:AS} {w:World} (hR:R Λ ρ S w) {n:Nat} (hn:0<n) :
  ∃ i w1,(choose (.mapNext n)).run P w=.ok i w1∧w1.heap=w.heap∧i<n∧R Λ ρ S w1∧Kp ρ S w ρ S w1:=by
 rw[run_choose];split
 ·exact ⟨0,w,rfl,rfl,hn,hR,Kp.refl _ _ _⟩
 ·exact ⟨_,{ w with drawn:=w.drawn+1 },rfl,rfl,Nat.mod_lt _ hn,hR.drawn _,Kp.drawn _ _ _ _⟩
theorem isNil_iff {α:Type} (l:List α):ow l=l.isEmpty:=by cases l<;>rfl
theorem nextV_many {P:Program} {ρ:aI} {S:AS} {w:World} (hR:R Λ ρ S w) {x:AV} {x':Value} {str:Bool} {ty:TypeId} {l:List (AV×AS)} (h:lU S x str=.many l) (cN:l≠[]) (hx:ah ρ x x') :
  ∃ r,r∈l∧oS Λ P ρ S w (Instr.next x' str ty) r.1 r.2:=by
 unfold lU at h;split at h
 ·rename_i id ay;split at h
  ·rename_i s pos ho;cases str with
   | false=>cases h
   | true=>
    simp only[cond_true] at h;split at h
    ·rename_i b hb;cases nv:Nat.blt b 128<;>rw[nv] at h<;>cases h
    ·cases h
  ·cases str<;>cases h
  ·rename_i m since seen last ho;cases str with
   | true=>cases h
   | false=>
    simp only[cond_false] at h;cases hm:S.h.get m with
    | none=>rw[hm] at h;cases h
    | some om=>
     cases om with
     | row a b c d t=>rw[hm] at h;cases h
     | dO y=>rw[hm] at h;cases h
     | map es clock=>
      rw[hm] at h;simp only[AR.many.injEq] at h;obtain ⟨pl,o,p1,p2,rfl,p4,plm,sn,m1,rfl,m3⟩:=pn hR hx ho;obtain ⟨plm',ES,q1,q2,q3⟩:=hR.fi m _ hm;rw[m1] at q1;cases q1;have hg:=kV (P:=P) p4 (by intro _ _ _ e;cases e);have hgm:(getObj plm.b).run P w=.ok (.map ES clock) w:=by simp[getObj,Sem.run,q2]
      have uA:∀ b,mV b seen=sn.contains b:=by
       intro b;rw[vu,←Array.contains_toList,m3];simp
      have iN:eY (fun e=>Nat.ble last e.born) es=ES.all (fun e=>decide (e.born≥last)):=by
       rw[fS,←Array.all_toList];exact ez.all (fun e m hb=>by rw[cn,hb]) q3
      have hsn:seen.isEmpty=sn.isEmpty:=by
       rw[←Array.isEmpty_toList,m3];simp
      have hes:es.isEmpty=ES.isEmpty:=emp_len q3.1;unfold zL at h;simp only[isNil_iff,j7,fu,bw,iN,hsn,hes] at h;cases hg1:(!sn.isEmpty&&(!ES.isEmpty&&ES.all (fun e=>decide (e.born≥last)))) with
      | true=>rw[hg1] at h;exact absurd h.symm cN
      | false=>
       rw[hg1] at h;simp only[cond_false] at h;have hg2:(!sn.isEmpty && !ES.isEmpty&&ES.all (fun e=>decide (e.born≥last)))=false:=by rw[Bool.and_assoc];exact hg1
       have q4:ez ρ (es.filter fun e=>!mV e.born seen) (ES.toList.filter fun e=>!sn.contains e.born):=ez.filter (fun e m hb=>by rw[uA,hb]) q3;have q5:=ez.filter (p:=fun e=>Nat.blt e.born since) (q:=fun m=>decide (m.born<since)) (fun e m hb=>by rw[gI,hb]) q4;have q6:=ez.filter (p:=fun e=>!Nat.blt e.born since) (q:=fun m=>decide (m.born≥since)) (fun e m hb=>by
        rw[gI,hb];by_cases bK:m.born<since
        ·simp[bK]
        ·simp[bK];omega) q4
       generalize hold:(es.filter fun e=>!mV e.born seen).filter (fun e=>Nat.blt e.born since)=old at h q5;generalize jI:(es.filter fun e=>!mV e.born seen).filter (fun e=>!Nat.blt e.born since)=new at h q6;have q7:=q5.append q6;have hcand:∃ (O N:Array MapEntry),O.toList=(ES.toList.filter fun e=>!sn.contains e.born).filter (fun m=>decide (m.born<since)) ∧
         N.toList=(ES.toList.filter fun e=>!sn.contains e.born).filter (fun m=>decide (m.born≥since)) ∧
         (ES.filter fun e=>!sn.contains e.born).filter (fun m=>decide (m.born<since))=O∧(ES.filter fun e=>!sn.contains e.born).filter (fun m=>decide (m.born≥since))=N:=by
        refine ⟨_,_,?_,?_,rfl,rfl⟩<;>simp only[Array.toList_filter]
       obtain ⟨O,N,hO,hN,eO,eN⟩:=hcand;rw[←hO] at q5;rw[←hO,←hN] at q7;have hoe:old.isEmpty=O.isEmpty:=emp_len q5.1;have ma:∀ (i:Nat) (w1:World),(choose (.mapNext ((if O.isEmpty then #[none] else #[])++(O++N).map some).size)).run P w=.ok i w1 →
         (∀ c,((if O.isEmpty then #[none] else #[])++(O++N).map some)[i]?=some c →
          (Instr.next (.pointer (some ⟨pl.b,0,none⟩)) false ty).run P w=(match c with
           | some e=>(do setObj pl.b (.mapIter (some plm.b) since (sn.push e.born) clock);pure (.tuple #[.bool true,e.key,e.val]):Sem Value)
           | none=>pure (.tuple #[.bool false])).run P w1):=by
        intro i w1 hi c hc;simp only[Instr.next,Sem.run_bind,Result.andThen_ok,hg,hgm,hg2,Bool.false_eq_true,if_false,eO,eN,hi,hc];cases c<;>rfl
       have gp:0<((if O.isEmpty then #[none] else #[])++(O++N).map some:Array (Option MapEntry)).size:=by
        rw[Array.size_append];by_cases hO2:O.isEmpty=true
        ·rw[if_pos hO2];exact Nat.lt_of_lt_of_le Nat.zero_lt_one (Nat.le_add_right _ _)
        ·rw[if_neg hO2,Array.size_map,Array.size_append];have:O.size≠0:=fun e=>hO2 (by simp[Array.isEmpty,e]);omega
       obtain ⟨i,w1,d1,d2,d6,dR,dK⟩:=choose_map (P:=P) hR gp;have hc:=ma i w1 d1 _ (Array.getElem?_eq_getElem d6);have xr:=Array.getElem_mem d6;generalize ((if O.isEmpty then #[none] else #[])++(O++N).map some:Array (Option MapEntry))[i]=c at hc xr;cases c with
       | none=>
        have hOe:old.isEmpty=true:=by
         rw[hoe];cases hO2:O.isEmpty with
         | true=>rfl
         | false=>rw[hO2] at xr;simp at xr
        rw[hOe] at h;simp only[cond_true] at h;subst h;refine ⟨_,List.mem_cons_self,.tuple #[.bool false],ρ,w1,?_,wK ρ,dR,dK⟩;rw[hc];simp only[Sem.run_pure]
       | some e=>
        have yw:e∈(O++N).toList:=by
         have h1:some e∈((O++N).map some:Array (Option MapEntry)):=by
          rcases Array.mem_append.1 xr with h1|h1
          ·cases hO2:O.isEmpty<;>rw[hO2] at h1<;>simp at h1
          ·exact h1
         obtain ⟨e',h2,h3⟩:=Array.mem_map.1 h1;cases h3;exact Array.mem_toList_iff.2 h2
        rw[Array.toList_append] at yw;obtain ⟨j,hj⟩:=List.mem_iff_getElem?.1 yw;obtain ⟨a,ha,ha1,ha2,ha3⟩:=q7.get hj;have hal:vW S id m since seen clock a∈l:=by
         have h1:vW S id m since seen clock a∈List.map (vW S id m since seen clock) (old++new):=List.mem_map.2 ⟨a,List.mem_of_getElem? ha,rfl⟩;rw[←h];cases old.isEmpty with
         | true=>exact List.mem_cons_of_mem _ h1
         | false=>exact h1
        obtain ⟨w',s1,s2,s3⟩:=ur (P:=P) (o:=.mapIter (some plm.b) since (sn.push e.born) clock) (by rw[d2];exact p4:w1.heap[pl.b]?=_) (by intro _ _ _ e;cases e);obtain ⟨t1,t2⟩:=dR.AL (x:=.iter (some m) since (a.born :: seen) clock) ho (by intro a b c d t e;cases e) p1 s2 s3 ⟨plm,_,m1,rfl,by simp[m3,ha3]⟩ p2;refine ⟨_,hal,.tuple #[.bool true,e.key,e.val],ρ,w',?_,?_,t1,dK.trans t2⟩
        ·rw[hc];simp only[Sem.run_bind,s1,Result.andThen_ok,Sem.run_pure]
        ·simp only[vW,ah];exact ⟨_,rfl,au.cons (by simp[ah]) (au.cons ha1 (au.cons ha2 au.nil))⟩
  ·cases h
 ·cases h
theorem entryV_run {P:Program} {ρ:aI} {S:AS} {w:World} (hR:R Λ ρ S w) {x u:AV} {x':Value} (h:qT S x=some u) (hx:ah ρ x x') :
  ∃ z,(Instr.entry x').run P w=.ok z w∧ah ρ u z:=by
 unfold qT at h;split at h
 ·rename_i id ay;split at h
  ·rename_i m since b seen last ho;obtain ⟨pl,o,p1,p2,rfl,p4,plm,sn,m1,rfl,m3⟩:=pn hR hx ho;have hg:=kV (P:=P) p4 (by intro _ _ _ e;cases e);cases hm:S.h.get m with
   | none=>rw[hm] at h;cases h
   | some om=>
    cases om with
    | row a b c d t=>rw[hm] at h;cases h
    | dO y=>rw[hm] at h;cases h
    | map es clock=>
     rw[hm] at h;simp only[bf] at h;by_cases pS:clock=last
     ·rw[decide_eq_true pS] at h;simp only[cond_true] at h;subst pS;obtain ⟨plm',ES,q1,q2,q3⟩:=hR.fi m _ hm;rw[m1] at q1;cases q1;have hgm:(getObj plm.b).run P w=.ok (.map ES clock) w:=by simp[getObj,Sem.run,q2]
      have hback:sn.back?=some b:=by
       rw[Array.back?_eq_getElem?,←Array.getElem?_toList];have gp:sn.size=seen.length+1:=by rw[←Array.length_toList,m3];simp
       rw[m3,gp,List.getElem?_reverse (by simp)];simp
      cases hf:oF b es 0 with
      | none=>rw[hf] at h;cases h
      | some r=>
       obtain ⟨i,e⟩:=r;rw[hf] at h;cases h;obtain ⟨mm,r1,r2,r3,r4,r5,r6,r7,r8⟩:=tL q3 hf;refine ⟨.tuple #[mm.key,mm.val],?_,wI r6 r7⟩;have hfd:ES.find? (fun m=>m.born == b)=some mm:=by rw[←Array.find?_toList];exact r1
       simp only[Instr.entry,Sem.run_bind,Sem.run_pure,Result.andThen_ok,hg,hgm,hback,bne_self_eq_false,Bool.false_eq_true,if_false,hfd]
     ·rw[decide_eq_false pS] at h;cases h
  ·cases h
 ·cases h
end Go.Am
